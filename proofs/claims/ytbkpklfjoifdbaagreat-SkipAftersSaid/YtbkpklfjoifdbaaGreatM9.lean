/- Parts of the proof, in build order. -/
import Derived.Test.YtbkpklfjoifdbaaGreatM8
import Derived.Test.YtbkpklfjoifdbaaGreatM6
import Derived.Test.YtbkpklfjoifdbaaGreatM7
namespace Go.Proofs.YtbkpklfjoifdbaaGreat
/-! Products. -/
def inC (x:Int) (b:List Int) (i:Nat) (s:Int × List Int) (k:Nat):Int:=s.1 + s.2.getD (i + k) 0 + x * b.getD k 0
def inSt (x:Int) (b:List Int) (i:Nat) (out:List Int):Nat→Int × List Int
 | 0=>(0,out)
 | k + 1=>(inC x b i (inSt x b i out k) k / 32768,(inSt x b i out k).2.set (i + k) (inC x b i (inSt x b i out k) k % 32768))
structure InIs (x:Int) (b:List Int) (i:Nat) (out:List Int) (k:Nat):Prop where
 len:(inSt x b i out k).2.length=out.length
 low:low15 (inSt x b i out k).2
 c:0≤(inSt x b i out k).1∧(inSt x b i out k).1 < 32768
 vl:vl (inSt x b i out k).2 + (inSt x b i out k).1 * 32768 ^ (i + k)=vl out + x * vl (b.take k) * 32768 ^ i
 rest:∀ j,i + k≤j→(inSt x b i out k).2.getD j 0=out.getD j 0
theorem inC_in {x:Int} {b:List Int} {i:Nat} {out:List Int} (hx:0≤x∧x < 32768) (hb:low15 b) {k:Nat} (h:InIs x b i out k):0≤inC x b i (inSt x b i out k) k∧inC x b i (inSt x b i out k) k < 1073741824:=by
 have h1:=h.c
 have h2:=low_get h.low (i + k)
 have h3:=low_get hb k
 have h4:0≤x * b.getD k 0:=Int.mul_nonneg hx.1 h3.1
 have h5:x * b.getD k 0≤32767 * 32767:=Int.mul_le_mul (by omega) (by omega) h3.1 (by omega)
 unfold inC
 omega
theorem in_is {x:Int} {b:List Int} {i:Nat} {out:List Int} (hx:0≤x∧x < 32768) (hb:low15 b) (ho:low15 out) (hl:i + b.length < out.length):∀ k,k≤b.length→InIs x b i out k
 | 0,_=>⟨rfl,ho,by simp [inSt],by simp [inSt,vl],fun j _=>rfl⟩
 | k + 1,hk=>by
   have h:=in_is hx hb ho hl k (by omega)
   have hc:=inC_in hx hb h
   have hlen:=h.len
   refine ⟨by simp [inSt,hlen],?_,?_,?_,fun j hj=>?_⟩
   ·exact low_set h.low (by omega)
   ·simp only [inSt]; omega
   ·simp only [inSt]
    rw [vl_set _ _ _ (by omega),vl_take _ _ (by omega)]
    have hv:=h.vl
    have e:inC x b i (inSt x b i out k) k % 32768=inC x b i (inSt x b i out k) k - 32768 * (inC x b i (inSt x b i out k) k / 32768):=by omega
    rw [e]
    generalize hq:inC x b i (inSt x b i out k) k / 32768=q
    have ec:inC x b i (inSt x b i out k) k=(inSt x b i out k).1 + (inSt x b i out k).2.getD (i + k) 0 + x * b.getD k 0:=rfl
    rw [ec]
    have p1:(32768:Int) ^ (i + (k + 1))=32768 ^ (i + k) * 32768:=by rw [← Nat.add_assoc,Int.pow_succ]
    have p2:(32768:Int) ^ (i + k)=32768 ^ k * 32768 ^ i:=by rw [Nat.add_comm,Int.pow_add]
    rw [p1]
    have e3:x * (vl (b.take k) + b.getD k 0 * 32768 ^ k) * 32768 ^ i=x * vl (b.take k) * 32768 ^ i + x * b.getD k 0 * 32768 ^ (i + k):=by
     rw [p2,Int.mul_add,Int.add_mul]; simp only [Int.mul_assoc]
    rw [e3,← Int.add_assoc,← hv]
    generalize (32768:Int) ^ (i + k)=P
    generalize (inSt x b i out k).2.getD (i + k) 0=o
    generalize x * b.getD k 0=m
    generalize (inSt x b i out k).1=c
    have e4:(c + o + m - 32768 * q - o) * P + q * (P * 32768)=c * P + m * P:=by
     have:c + o + m - 32768 * q - o=c + m - 32768 * q:=by omega
     rw [this,Int.sub_mul,Int.add_mul,Int.mul_comm P 32768,← Int.mul_assoc q,Int.mul_comm q 32768]
     omega
    rw [Int.add_assoc,e4]; omega
   ·simp only [inSt]
    rw [List.getD_eq_getElem?_getD,List.getElem?_set_ne (by omega),← List.getD_eq_getElem?_getD]
    exact h.rest j (by omega)
def outSt (a b:List Int):Nat→List Int
 | 0=>List.replicate (a.length + b.length) 0
 | i + 1=>(inSt (a.getD i 0) b i (outSt a b i) b.length).2.set (i + b.length) (inSt (a.getD i 0) b i (outSt a b i) b.length).1
structure OutIs (a b:List Int) (i:Nat):Prop where
 len:(outSt a b i).length=a.length + b.length
 low:low15 (outSt a b i)
 vl:vl (outSt a b i)=vl (a.take i) * vl b
 rest:∀ j,i + b.length≤j→(outSt a b i).getD j 0=0
theorem out_is {a b:List Int} (ha:low15 a) (hb:low15 b):∀ i,i≤a.length→OutIs a b i
 | 0,_=>⟨by simp [outSt],fun x hx=>by simp [outSt] at hx; omega,by simp [outSt,vl_zeros,vl],fun j hj=>by simp [outSt,List.getD_eq_getElem?_getD,List.getElem?_replicate]; split<;>rfl⟩
 | i + 1,hi=>by
   have h:=out_is ha hb i (by omega)
   have hlen:=h.len
   have k:=in_is (low_get ha i) hb h.low (i:=i) (by omega) b.length (Nat.le_refl _)
   have hr:=k.rest (i + b.length) (Nat.le_refl _)
   rw [h.rest _ (Nat.le_refl _)] at hr
   have kl:=k.len
   refine ⟨by simp only [outSt,List.length_set,kl,hlen],low_set k.low k.c,?_,fun j hj=>?_⟩
   ·simp only [outSt]
    rw [vl_set _ _ _ (by omega),hr,Int.sub_zero,k.vl,List.take_length,h.vl,vl_take _ _ (by omega),Int.add_mul]
    rw [Int.mul_assoc (a.getD i 0) (32768 ^ i),Int.mul_comm (32768 ^ i) (vl b),Int.mul_assoc]
   ·simp only [outSt]
    rw [List.getD_eq_getElem?_getD,List.getElem?_set_ne (by omega),← List.getD_eq_getElem?_getD,k.rest j (by omega)]
    exact h.rest j (by omega)
theorem out_dg {a b:List Int} (ha:isDg a=true) (hb:isDg b=true):trimL (outSt a b a.length)=dg (vl a * vl b):=by
 rw [isDg_iff] at ha hb
 have la:low15 a:=by rw [ha.1]; exact low_dg _ ha.2
 have lb:low15 b:=by rw [hb.1]; exact low_dg _ hb.2
 have h:=out_is la lb a.length (Nat.le_refl _)
 rw [trim_dg h.low,h.vl,List.take_length]
/-! Sums. -/
def plC (a b:List Int) (s:Int × List Int) (i:Nat):Int:=s.1 + a.getD i 0 + b.getD i 0
def plSt (a b:List Int):Nat→Int × List Int
 | 0=>(0,[])
 | i + 1=>(plC a b (plSt a b i) i / 32768,(plSt a b i).2++[plC a b (plSt a b i) i % 32768])
structure PlIs (a b:List Int) (i:Nat):Prop where
 len:(plSt a b i).2.length=i
 low:low15 (plSt a b i).2
 c:0≤(plSt a b i).1∧(plSt a b i).1≤1
 vl:vl (plSt a b i).2 + (plSt a b i).1 * 32768 ^ i=vl (a.take i) + vl (b.take i)
theorem vl_take' (l:List Int) (i:Nat):vl (l.take (i + 1))=vl (l.take i) + l.getD i 0 * 32768 ^ i:=by
 rcases Nat.lt_or_ge i l.length with h | h
 ·exact vl_take l i h
 ·rw [List.take_of_length_le (by omega),List.take_of_length_le h,List.getD_eq_getElem?_getD,List.getElem?_eq_none h]; simp
theorem pl_is {a b:List Int} (ha:low15 a) (hb:low15 b):∀ i,PlIs a b i
 | 0=>⟨rfl,fun x hx=>by simp [plSt] at hx,by simp [plSt],by simp [plSt,vl]⟩
 | i + 1=>by
   have h:=pl_is ha hb i
   have h1:=h.c
   have h2:=low_get ha i
   have h3:=low_get hb i
   have hl:=h.len
   have hc:0≤plC a b (plSt a b i) i∧plC a b (plSt a b i) i < 65536:=by unfold plC; omega
   refine ⟨by simp [plSt,hl],low_app h.low (by omega),by simp only [plSt]; omega,?_⟩
   simp only [plSt]
   rw [vl_append,hl,vl_take',vl_take',Int.pow_succ]
   have hv:=h.vl
   have e:plC a b (plSt a b i) i % 32768=plC a b (plSt a b i) i - 32768 * (plC a b (plSt a b i) i / 32768):=by omega
   rw [e]
   have ec:plC a b (plSt a b i) i=(plSt a b i).1 + a.getD i 0 + b.getD i 0:=rfl
   generalize plC a b (plSt a b i) i / 32768=q
   rw [ec]
   generalize (32768:Int) ^ i=P at *
   generalize (plSt a b i).1=c at *
   generalize a.getD i 0=x
   generalize b.getD i 0=y
   rw [Int.sub_mul,Int.add_mul,Int.add_mul,Int.mul_comm P 32768,← Int.mul_assoc q,Int.mul_comm q 32768]
   omega
/-! Differences. -/
def isD (l:List Int):Bool:=isDg l&&decide (vl l < 1532495540865888858358347027150309183618739122183602176)
theorem isD_iff {l:List Int}:isD l=true↔l=dg (vl l)∧0≤vl l∧vl l < 1532495540865888858358347027150309183618739122183602176:=by
 simp only [isD,Bool.and_eq_true,isDg_iff,decide_eq_true_eq,and_assoc]
theorem isD_dg {n:Int} (h:0≤n∧n < 1532495540865888858358347027150309183618739122183602176):isD (dg n)=true:=by
 rw [isD_iff,vl_dg n h.1]; exact ⟨rfl,h⟩
theorem dg_len {n:Int} (h:0≤n∧n < 1532495540865888858358347027150309183618739122183602176):(dg n).length≤12:=by
 rcases Nat.lt_or_ge (dg n).length 13 with h1 | h1
 ·omega
 ·have hz:n≠0:=fun e=>by subst e; simp [dg_zero] at h1
  have h2:=dg_ge n h.1 hz
  have h3:=pow_mono (show 12≤(dg n).length - 1 by omega)
  have h4:(32768:Int) ^ 12=1532495540865888858358347027150309183618739122183602176:=by decide
  omega
theorem isD_len {l:List Int} (h:isD l=true):l.length≤12:=by
 rw [isD_iff] at h
 rw [h.1]; exact dg_len h.2
theorem isD_low {l:List Int} (h:isD l=true):low15 l:=by
 rw [isD_iff] at h
 rw [h.1]; exact low_dg _ h.2.1
theorem isD_isDg {l:List Int} (h:isD l=true):isDg l=true:=by
 rw [isD_iff] at h; rw [isDg_iff]; exact ⟨h.1,h.2.1⟩
theorem trimL_app0 (l:List Int):trimL (l++[0])=trimL l:=by
 induction l with
 | nil=>rfl
 | cons a r ih=>simp only [List.cons_append,trimL,ih]
theorem trimL_last (l:List Int) (x:Int) (h:x≠0):trimL (l++[x])=l++[x]:=by
 induction l with
 | nil=>simp [trimL,h]
 | cons a r ih=>
   simp only [List.cons_append,trimL,ih]
   split
   ·rename_i e; exact absurd e (by simp)
   ·rfl
open Go.RowKit
abbrev lN (l:List Int):AVal:=.ro (.int .i64) l
def l1 (l:List Int):AOut:=.ret (.ro (.int .i64) l)
theorem w64 (n:Int) (h:-9223372036854775808≤n∧n≤9223372036854775807):IntKind.i64.wrap n=n:=by rw [IntKind.wrap_i64]; omega
theorem mlx:maxLen=9223372036854775807:=rfl
theorem roomx:room=140737488355328:=rfl
theorem snoc_ind {P:List Int→Prop} (h0:P []) (h1:∀ l y,P l→P (l++[y])) (l:List Int):P l:=by
 rw [← List.reverse_reverse l]
 induction l.reverse with
 | nil=>exact h0
 | cons a r ih=>rw [List.reverse_cons]; exact h1 _ _ ih
theorem dg_drop:∀ (i:Nat) (n:Int),0≤n→(dg n).drop i=dg (n / 32768 ^ i)
 | 0,n,_=>by simp
 | i + 1,n,h=>by
   rcases Int.lt_or_le 0 n with hp | hp
   ·rw [dg_pos hp,List.drop_succ_cons,dg_drop i _ (by omega),Int.pow_succ,Int.mul_comm (32768 ^ i) 32768,Int.ediv_ediv_of_nonneg (by omega)]
   ·have:n=0:=by omega
    subst this
    simp [dg_zero]
def ofS:Fsp:=fun _ args k=>match args with
 | [.int .i64 n]=>bif decide (0≤n)&&decide (n≤9223372036854775807) then k (l1 (dg n)) else none
 | _=>none
theorem of_text (N n0:Nat) (α:Type) (n:Int) (k:AOut→Option α):evFn real tab ((twT (fun _=>none) (fun _=>none)).env real tab N n0) N Tryz.f195 α [iN n] k =
 afterL (iterL N (fun (x:List Int × Int × Unit)=>bif decide (x.2.1 > 0) then if (x.1.length + [x.2.1.tmod 32768].length) * 8≤room then some (LRes.cont (x.1++[x.2.1.tmod
 32768],IntKind.i64.wrap (x.2.1.tdiv 32768),())) else none else some (LRes.brk 0 (x.1,x.2.1,()))) ([],n,())) fun id y=>if id=0 then k (l1 y.1) else none:=by kernel_rfl
theorem of_plain {α:Type} (n:Int) (h:0≤n∧n≤9223372036854775807) (k:AOut→Option α):evFn real tab ((twT (fun _=>none) (fun _=>none)).env real tab 20 0) 20 Tryz.f195 α [iN n] k=k (l1 (dg n)):=by
 rw [of_text]
 generalize hf:(fun x:List Int × Int × Unit=>(_:Option (LRes (List Int × Int × Unit) α)))=f
 have hlen:=dg_len (n:=n) ⟨h.1,by omega⟩
 have hz:n / 32768 ^ (dg n).length=0:=by
  have:=dg_drop (dg n).length n h.1
  rw [List.drop_length] at this
  exact (dg_nil (Int.ediv_nonneg h.1 (Int.le_of_lt (pow15 _)))).1 this.symm
 have e:iterL 20 f ([],n,())=some (.brk 0 (dg n,0,())):=by
  refine (congrArg (iterL 20 f) (by simp)).trans (iterL_count (f:=f) (fun i:Nat=>((dg n).take i,n / 32768 ^ i,())) (fun y e=>by cases e) (dg n).length (fun i hi=>?_) ?_ 0 (Nat.zero_le _) 20 (by omega))
  ·rw [← hf]
   have hm:0≤n / 32768 ^ i:=Int.ediv_nonneg h.1 (Int.le_of_lt (pow15 i))
   have hd:=dg_drop i n h.1
   have hne:n / 32768 ^ i≠0:=fun e=>by
    rw [e,dg_zero] at hd
    have:=congrArg List.length hd
    simp at this; omega
   have hle:n / 32768 ^ i≤n:=Int.ediv_le_self _ h.1
   rw [dg_pos (n:=n / 32768 ^ i) (by omega)] at hd
   have hget:(dg n).getD i 0=n / 32768 ^ i % 32768:=by
    have:=congrArg (fun l=>List.getD l 0 0) hd
    simpa [List.getD_eq_getElem?_getD] using this
   have ht:(dg n).take (i + 1)=(dg n).take i++[n / 32768 ^ i % 32768]:=by
    rw [List.take_add_one,List.getElem?_eq_getElem hi,← hget,List.getD_eq_getElem?_getD,List.getElem?_eq_getElem hi]
    rfl
   have e1:(n / 32768 ^ i).tmod 32768=n / 32768 ^ i % 32768:=Int.tmod_eq_emod_of_nonneg hm
   have e2:(n / 32768 ^ i).tdiv 32768=n / 32768 ^ i / 32768:=Int.tdiv_eq_ediv_of_nonneg hm
   simp only [decide_eq_true (show n / 32768 ^ i > 0 by omega),cond_true,e1,e2]
   rw [if_pos (by rw [roomx]; simp; omega),w64 _ (by omega),← ht,Int.ediv_ediv_of_nonneg (Int.le_of_lt (pow15 i)),← Int.pow_succ]
  ·rw [← hf]
   simp only [hz,List.take_length]
   rfl
 rw [e]
 rfl
theorem ofS_ok:FspOk Tryz.prog 195 ofS:=tower_S fs_nil sp_nil ⟨Tryz.func195,fun _ _=>by kernel_rfl⟩ (by intro α args k; unfold ofS; split<;>simp only [cond_bind,Option.bind_some,Option.bind_none]) fun args out hs h=>by
 unfold ofS at h
 split at h
 ·rename_i n
  cases hb:decide (0≤n)&&decide (n≤9223372036854775807)
  ·rw [hb] at h; cases h
  ·rw [hb] at h
   simp only [Bool.and_eq_true,decide_eq_true_eq] at hb
   exact ⟨20,0,(of_plain n hb some).trans h⟩
 ·cases h
def trimS:Fsp:=fun _ args k=>match args with
 | [.ro (.int .i64) l]=>k (l1 (trimL l))
 | _=>none
theorem trim_text (N n0:Nat) (α:Type) (a:List Int) (k:AOut→Option α):evFn real tab ((twT (fun _=>none) (fun _=>none)).env real tab N n0) N Tryz.f218 α [lN a] k =
 afterL (iterL N (fun (x:List Int × Unit)=>bif decide ((x.1.length:Int) > 0) then if 0≤IntKind.i64.wrap ((x.1.length:Int) - 1)∧IntKind.i64.wrap ((x.1.length:Int) - 1) <
 (x.1.length:Int) then bif x.1.getD (IntKind.i64.wrap ((x.1.length:Int) - 1)).toNat (Int.ofNat 0)==0 then if 0≤IntKind.i64.wrap ((x.1.length:Int) - 1)∧IntKind.i64.wrap
 ((x.1.length:Int) - 1)≤(x.1.length:Int) then some (LRes.cont (List.take (IntKind.i64.wrap ((x.1.length:Int) - 1)).toNat x.1,())) else none else some (LRes.brk 0 (x.1,()))
 else none else some (LRes.brk 0 (x.1,()))) (a,())) fun id y=>if id=0 then k (l1 y.1) else none:=by kernel_rfl
theorem trim_plain {α:Type} (a:List Int) (hl:a.length≤maxLen) (k:AOut→Option α):evFn real tab ((twT (fun _=>none) (fun _=>none)).env real tab (a.length + 1) 0) (a.length + 1) Tryz.f218 α [lN a] k=k (l1 (trimL a)):=by
 rw [trim_text]
 generalize hf:(fun x:List Int × Unit=>(_:Option (LRes (List Int × Unit) α)))=f
 have key:∀ l:List Int,l.length≤maxLen→∀ N,l.length < N→iterL N f (l,())=some (.brk 0 (trimL l,())):=by
  refine snoc_ind (fun _ N hN=>?_) (fun l y ih hlen N hN=>?_)
  ·obtain ⟨M,rfl⟩:∃ M,N=M + 1:=⟨N - 1,by simp at hN; omega⟩
   have:f ([],())=some (.brk 0 ([],())):=by rw [← hf]; rfl
   simp only [iterL,this]
   rfl
  ·obtain ⟨M,rfl⟩:∃ M,N=M + 1:=⟨N - 1,by omega⟩
   rw [List.length_append,List.length_singleton] at hlen hN
   rw [mlx] at hlen ih
   have hfl:f (l++[y],())=bif y==0 then some (.cont (l,())) else some (.brk 0 (l++[y],())):=by
    rw [← hf]
    have e1:(((l++[y]).length:Nat):Int) - 1=(l.length:Int):=by simp
    simp only [e1]
    have hL:(((l++[y]).length:Nat):Int)=(l.length:Int) + 1:=by simp
    rw [w64 (l.length:Int) (by omega),decide_eq_true (show (((l++[y]).length:Nat):Int) > 0 by rw [hL]; omega),cond_true,if_pos ⟨by omega,by rw [hL]; omega⟩,if_pos ⟨by omega,by rw [hL]; omega⟩]
    have e2:(l++[y]).getD ((l.length:Int)).toNat (Int.ofNat 0)=y:=by simp [List.getD_eq_getElem?_getD]
    have e3:List.take ((l.length:Int)).toNat (l++[y])=l:=by simp
    rw [e2,e3]
   simp only [iterL,hfl]
   by_cases hy:y=0
   ·subst hy
    rw [beq_self_eq_true,cond_true,trimL_app0]
    exact ih (by omega) M (by omega)
   ·rw [beq_eq_false_iff_ne.2 hy,cond_false,trimL_last _ _ hy]
 rw [key a hl _ (by omega)]
 rfl
theorem trimS_ok:FspOk Tryz.prog 218 trimS:=tower_S fs_nil sp_nil ⟨Tryz.func218,fun _ _=>by kernel_rfl⟩ (by intro α args k; unfold trimS; split<;>rfl) fun args out hs h=>by
 unfold trimS at h
 split at h
 ·rename_i l
  exact ⟨_,0,(trim_plain l (hs _ (by simp)).len some).trans h⟩
 ·cases h
def orderS:Fsp:=fun _ args k=>match args with
 | [.ro (.int .i64) a,.ro (.int .i64) b]=>bif isD a&&isD b then k (i1 (cmp3 (vl a) (vl b))) else none
 | _=>none
theorem order_text (N n0:Nat) (α:Type) (a b:List Int) (k:AOut→Option α):evFn real tab ((twT (fun _=>none) (fun _=>none)).env real tab N n0) N Tryz.f196 α [lN a,lN b] k =
 bif decide ((a.length:Int) < (b.length:Int)) then k (i1 (-1)) else bif decide ((a.length:Int) > (b.length:Int)) then k (i1 1) else afterL (iterL N (fun (x:Int × Unit)=>
 bif decide (x.1 ≥ 0) then if 0≤x.1∧x.1 < (a.length:Int) then if 0≤x.1∧x.1 < (b.length:Int) then bif decide (a.getD x.1.toNat (Int.ofNat 0) < b.getD x.1.toNat (Int.ofNat
 0)) then finL (k (i1 (-1))) else if 0≤x.1∧x.1 < (a.length:Int) then if 0≤x.1∧x.1 < (b.length:Int) then bif decide (a.getD x.1.toNat (Int.ofNat 0) > b.getD x.1.toNat
 (Int.ofNat 0)) then finL (k (i1 1)) else some (LRes.cont (IntKind.i64.wrap (x.1 - 1),())) else none else none else none else none else some (LRes.brk 0 (x.1,())))
 (IntKind.i64.wrap ((a.length:Int) - 1),())) fun id _=>if id=0 then k (i1 0) else none:=by kernel_rfl
theorem drop_eq {l m:List Int} (hl:m.length=l.length) {i:Nat} (h:∀ j,i≤j→j < l.length→l.getD j 0=m.getD j 0):l.drop i=m.drop i:=by
 apply List.ext_getElem
 ·simp [hl]
 ·intro j h1 h2
  simp only [List.length_drop] at h1 h2
  have:=h (i + j) (by omega) (by omega)
  rw [List.getD_eq_getElem?_getD,List.getD_eq_getElem?_getD,List.getElem?_eq_getElem (by omega),List.getElem?_eq_getElem (by omega)] at this
  simpa using this
theorem order_plain {α:Type} (a b:List Int) (ha:isD a=true) (hb:isD b=true) (k:AOut→Option α):evFn real tab ((twT (fun _=>none) (fun _=>none)).env real tab (a.length + 1) 0) (a.length + 1) Tryz.f196 α [lN a,lN b] k=k (i1 (cmp3 (vl a) (vl b))):=by
 rw [order_text]
 have la:=isD_len ha
 have lb:=isD_len hb
 rw [isD_iff] at ha hb
 obtain ⟨ea,a0,a1⟩:=ha
 obtain ⟨eb,b0,b1⟩:=hb
 generalize vl a=A at *
 generalize vl b=B at *
 subst ea; subst eb
 unfold cmp3
 by_cases h1:(dg A).length < (dg B).length
 ·rw [decide_eq_true (by omega),cond_true,if_pos (dg_len_lt a0 b0 h1)]
 ·rw [decide_eq_false (by omega),cond_false]
  by_cases h2:(dg B).length < (dg A).length
  ·have:=dg_len_lt b0 a0 h2
   rw [decide_eq_true (by omega),cond_true,if_neg (by omega),if_pos this]
  ·have hl:(dg B).length=(dg A).length:=by omega
   rw [decide_eq_false (by omega),cond_false]
   generalize hf:(fun x:Int × Unit=>(_:Option (LRes (Int × Unit) α)))=f
   have e:=iterL_find (f:=f) (fun j:Nat=>(((dg A).length:Int) - 1 - j,())) (fun j=>(dg A).getD ((dg A).length - 1 - j) 0 != (dg B).getD ((dg A).length - 1 - j) 0)
    (R:=fun j=>if (dg A).getD ((dg A).length - 1 - j) 0 < (dg B).getD ((dg A).length - 1 - j) 0 then finL (k (i1 (-1))) else finL (k (i1 1))) (E:=some (.brk 0 (-1,())))
    (fun i y=>by split<;>exact fin_not _ y) (brk_not _ _) (dg A).length (fun j hj=>?_) ?_
   ·have e0:(((dg A).length:Int) - 1 - ((0:Nat):Int),())=(IntKind.i64.wrap (((dg A).length:Int) - 1),()):=by rw [w64 _ (by omega)]; simp
    rw [e0] at e
    rw [e]
    cases hq:(List.range (dg A).length).find? fun j=>(dg A).getD ((dg A).length - 1 - j) 0 != (dg B).getD ((dg A).length - 1 - j) 0 with
    | none=>
      rw [List.find?_eq_none] at hq
      have heq:(dg A).drop 0=(dg B).drop 0:=drop_eq hl fun j _ hj=>by
       have:=hq ((dg A).length - 1 - j) (List.mem_range.2 (by omega))
       rw [show (dg A).length - 1 - ((dg A).length - 1 - j)=j by omega] at this
       simpa using this
      have:A=B:=dg_eq a0 b0 heq
      rw [if_neg (by omega),if_neg (by omega)]
      rfl
    | some j=>
      have hj:=List.mem_range.1 (List.mem_of_find?_eq_some hq)
      have hne:=List.find?_some hq
      simp only [bne_iff_ne,ne_eq] at hne
      have hdrop:(dg A).drop ((dg A).length - 1 - j + 1)=(dg B).drop ((dg A).length - 1 - j + 1):=drop_eq hl fun i hi hi2=>by
       have hb:=(List.find?_range_eq_some.1 hq).2.2 ((dg A).length - 1 - i) (by omega)
       rw [show (dg A).length - 1 - ((dg A).length - 1 - i)=i by omega] at hb
       simpa using hb
      dsimp only
      by_cases hlt:(dg A).getD ((dg A).length - 1 - j) 0 < (dg B).getD ((dg A).length - 1 - j) 0
      ·rw [if_pos hlt,if_pos (dg_top a0 b0 (by omega) (by omega) hdrop hlt)]
       cases k (i1 (-1))<;>rfl
      ·have:=dg_top b0 a0 (i:=(dg A).length - 1 - j) (by omega) (by omega) hdrop.symm (by omega)
       rw [if_neg hlt,if_neg (by omega),if_pos this]
       cases k (i1 1)<;>rfl
   ·rw [← hf]
    have hi:(((dg A).length:Int) - 1 - j).toNat=(dg A).length - 1 - j:=by omega
    simp only [decide_eq_true (show ((dg A).length:Int) - 1 - j ≥ 0 by omega),cond_true,hi,show Int.ofNat 0=0 from rfl]
    rw [if_pos ⟨by omega,by omega⟩,if_pos ⟨by omega,by omega⟩,if_pos ⟨by omega,by omega⟩,if_pos ⟨by omega,by omega⟩,w64 _ (by omega)]
    generalize (dg A).getD ((dg A).length - 1 - j) 0=u
    generalize (dg B).getD ((dg A).length - 1 - j) 0=v
    by_cases c1:u < v
    ·rw [decide_eq_true c1,if_pos c1,show (u != v)=true by simp; omega]; rfl
    ·rw [decide_eq_false c1,if_neg c1]
     by_cases c2:u > v
     ·rw [decide_eq_true c2,show (u != v)=true by simp; omega]; rfl
     ·rw [decide_eq_false c2,show (u != v)=false by simp; omega,cond_false,cond_false,cond_false,show ((dg A).length:Int) - 1 - j - 1=((dg A).length:Int) - 1 - ((j + 1:Nat):Int) by omega]
   ·rw [← hf]
    simp only [decide_eq_false (show ¬ ((dg A).length:Int) - 1 - (dg A).length ≥ 0 by omega),cond_false]
    rw [show ((dg A).length:Int) - 1 - (dg A).length=-1 by omega]
theorem orderS_ok:FspOk Tryz.prog 196 orderS:=tower_S fs_nil sp_nil ⟨Tryz.func196,fun _ _=>by kernel_rfl⟩ (by intro α args k; unfold orderS; split<;>simp only [cond_bind,Option.bind_some,Option.bind_none]) fun args out hs h=>by
 unfold orderS at h
 split at h
 ·rename_i a b
  cases hb:isD a&&isD b
  ·rw [hb] at h; cases h
  ·rw [hb] at h
   rw [Bool.and_eq_true] at hb
   exact ⟨_,0,(order_plain a b hb.1 hb.2 some).trans h⟩
 ·cases h
/-! Sums. -/
def plusDS:Fsp:=fun _ args k=>match args with
 | [.ro (.int .i64) a,.ro (.int .i64) b]=>bif isD a&&isD b then k (l1 (dg (vl a + vl b))) else none
 | _=>none
section
variable {σ α:Type}
def plDE (out:List Int) (c i:Int):Option (LRes (List Int × Int × Int × Unit) α):=
 if (out.length + [c.tmod 32768].length) * 8≤room then some (LRes.cont (out++[c.tmod 32768],IntKind.i64.wrap (c.tdiv 32768),IntKind.i64.wrap (i + 1),())) else none
def plB2 (b:List Int) (out:List Int) (c i:Int):Option (LRes (List Int × Int × Int × Unit) α):=
 bif decide (i < (b.length:Int)) then
  if 0≤i∧i < (b.length:Int) then plDE out (IntKind.i64.wrap (c + b.getD i.toNat (Int.ofNat 0))) i else none
 else plDE out c i
def plB1 (a b:List Int) (out:List Int) (c i:Int):Option (LRes (List Int × Int × Int × Unit) α):=
 bif decide (i < (a.length:Int)) then
  if 0≤i∧i < (a.length:Int) then plB2 b out (IntKind.i64.wrap (c + a.getD i.toNat (Int.ofNat 0))) i else none
 else plB2 b out c i
end
theorem plusD_text (N n0:Nat) (α:Type) (a b:List Int) (k:AOut→Option α):evFn real tab ((twT (fun _=>none) (fun _=>none)).env real tab N n0) N Tryz.f200 α [lN a,lN b] k =
 afterL (iterL N (fun (x:List Int × Int × Int × Unit)=>bif decide (x.2.2.1 < (a.length:Int)) then plB1 a b x.1 x.2.1 x.2.2.1 else bif decide (x.2.2.1 < (b.length:Int)) then
 plB1 a b x.1 x.2.1 x.2.2.1 else bif decide (x.2.1 > 0) then plB1 a b x.1 x.2.1 x.2.2.1 else some (LRes.brk 0 (x.1,x.2.1,x.2.2.1,()))) ([],0,0,())) fun id y=>if id=0 then k
 (l1 y.1) else none:=by kernel_rfl
theorem plB_step {α:Type} {a b:List Int} (ha:low15 a) (hb:low15 b) {i:Nat} (hi:i≤20):plB1 (α:=α) a b (plSt a b i).2 (plSt a b i).1 i=some (.cont ((plSt a b (i + 1)).2,(plSt a b (i + 1)).1,((i + 1:Nat):Int),())):=by
 have h:=pl_is ha hb i
 have hl:=h.len
 have hc:=h.c
 have h2:=low_get ha i
 have h3:=low_get hb i
 have fin:∀ c:Int,c=plC a b (plSt a b i) i→plDE (α:=α) (plSt a b i).2 c i=some (.cont ((plSt a b (i + 1)).2,(plSt a b (i + 1)).1,((i + 1:Nat):Int),())):=fun c e=>by
  have hcc:0≤c∧c < 65536:=by rw [e]; unfold plC; omega
  unfold plDE
  rw [Int.tmod_eq_emod_of_nonneg hcc.1,Int.tdiv_eq_ediv_of_nonneg hcc.1,w64 (c / 32768) (by omega),w64 ((i:Int) + 1) (by omega),if_pos (by rw [roomx,hl]; simp; omega),e]
  rfl
 have second:∀ c:Int,c=(plSt a b i).1 + a.getD i 0→plB2 (α:=α) b (plSt a b i).2 c i=some (.cont ((plSt a b (i + 1)).2,(plSt a b (i + 1)).1,((i + 1:Nat):Int),())):=fun c e=>by
  unfold plB2
  by_cases hlt:i < b.length
  ·rw [decide_eq_true (by omega),cond_true,if_pos ⟨by omega,by omega⟩]
   refine fin _ ?_
   show IntKind.i64.wrap (c + b.getD i 0)=_
   rw [w64 _ (by omega),e]; rfl
  ·rw [decide_eq_false (by omega),cond_false]
   refine fin _ ?_
   have:b.getD i 0=0:=by rw [List.getD_eq_getElem?_getD,List.getElem?_eq_none (by omega)]; rfl
   rw [e]; unfold plC; omega
 unfold plB1
 by_cases hlt:i < a.length
 ·rw [decide_eq_true (by omega),cond_true,if_pos ⟨by omega,by omega⟩]
  refine second _ ?_
  show IntKind.i64.wrap ((plSt a b i).1 + a.getD i 0)=_
  rw [w64 _ (by omega)]
 ·rw [decide_eq_false (by omega),cond_false]
  refine second _ ?_
  have:a.getD i 0=0:=by rw [List.getD_eq_getElem?_getD,List.getElem?_eq_none (by omega)]; rfl
  omega
theorem dg_last {n:Int} (h:0≤n) {i:Nat} (hi:i + 1=(dg n).length):0 < (dg n).getD i 0:=by
 have hz:n≠0:=fun e=>by subst e; simp [dg_zero] at hi
 have h1:=dg_ge n h hz
 have h2:=vl_split (dg n) i (by omega)
 have h3:=vl_lt (low_take (low_dg n h) i)
 rw [vl_dg n h] at h2
 have h4:(dg n).drop i=[(dg n).getD i 0]:=by
  rw [List.drop_eq_getElem_cons (by omega),List.getD_eq_getElem?_getD,List.getElem?_eq_getElem (by omega),List.drop_of_length_le (by omega)]
  rfl
 rw [h4] at h2
 simp only [vl] at h2
 have h5:=(low_get (low_dg n h) i).1
 rcases Int.lt_or_le 0 ((dg n).getD i 0) with q | q
 ·exact q
 ·have:(dg n).getD i 0=0:=by omega
  rw [this] at h2
  rw [← hi,Nat.add_sub_cancel] at h1
  rw [List.length_take,Nat.min_eq_left (by omega)] at h3
  omega
theorem plusD_plain {α:Type} (a b:List Int) (ha:isD a=true) (hb:isD b=true) (k:AOut→Option α):evFn real tab ((twT (fun _=>none) (fun _=>none)).env real tab 30 0) 30 Tryz.f200 α [lN a,lN b] k=k (l1 (dg (vl a + vl b))):=by
 rw [plusD_text]
 have la:=isD_len ha
 have lb:=isD_len hb
 have wa:=isD_low ha
 have wb:=isD_low hb
 rw [isD_iff] at ha hb
 generalize hf:(fun x:List Int × Int × Int × Unit=>(_:Option (LRes (List Int × Int × Int × Unit) α)))=f
 -- how many parts there are
 let n0:=max a.length b.length
 have hn0:a.length≤n0∧b.length≤n0∧n0≤12:=⟨Nat.le_max_left ..,Nat.le_max_right ..,by simp only [n0]; omega⟩
 have P:=pl_is wa wb n0
 have hv:=P.vl
 rw [List.take_of_length_le hn0.1,List.take_of_length_le hn0.2.1] at hv
 have hgo:∀ i,i < n0→f ((plSt a b i).2,(plSt a b i).1,(i:Int),())=some (.cont ((plSt a b (i + 1)).2,(plSt a b (i + 1)).1,((i + 1:Nat):Int),())):=fun i hi=>by
  rw [← hf]
  dsimp only
  rw [plB_step wa wb (by omega)]
  have:i < a.length∨i < b.length:=by simp only [n0] at hi; omega
  rcases this with h | h
  ·rw [decide_eq_true (by omega),cond_true]
  ·rw [decide_eq_true (show (i:Int) < (b.length:Int) by omega),cond_true]
   cases decide ((i:Int) < (a.length:Int))<;>rfl
 have hend:∀ n:Nat,n0≤n→n≤14→(plSt a b n).1=0→f ((plSt a b n).2,(plSt a b n).1,(n:Int),())=some (.brk 0 ((plSt a b n).2,(plSt a b n).1,(n:Int),())):=fun n h1 h2 h3=>by
  rw [← hf]
  dsimp only
  rw [decide_eq_false (by omega),decide_eq_false (show ¬ (n:Int) < (b.length:Int) by omega),h3]
  rfl
 have hc:=P.c
 by_cases hz:(plSt a b n0).1=0
 ·have e:iterL 30 f ([],0,0,())=some (.brk 0 ((plSt a b n0).2,(plSt a b n0).1,(n0:Int),())):=
   iterL_count (f:=f) (fun i:Nat=>((plSt a b i).2,(plSt a b i).1,(i:Int),())) (fun y e=>by cases e) n0 hgo (hend n0 (Nat.le_refl _) (by omega) hz) 0 (Nat.zero_le _) 30 (by omega)
  have hres:(plSt a b n0).2=dg (vl a + vl b):=by
   rw [hz,Int.zero_mul,Int.add_zero] at hv
   rw [← hv]
   rcases Nat.eq_zero_or_pos n0 with h0 | h0
   ·have:=P.len
    rw [h0] at this ⊢
    have hnil:=List.eq_nil_of_length_eq_zero this
    rw [hnil]; rfl
   ·obtain ⟨m,hm⟩:∃ m,n0=m + 1:=⟨n0 - 1,by omega⟩
    have Q:=pl_is wa wb m
    rw [hm] at hz ⊢
    have hl:=Q.len
    have hcc:=Q.c
    have ga:=low_get wa m
    have gb:=low_get wb m
    have htop:0 < a.getD m 0∨0 < b.getD m 0:=by
     have:m + 1=a.length∨m + 1=b.length:=by simp only [n0] at hm; omega
     rcases this with h | h
     ·left; have:=dg_last ha.2.1 (i:=m) (by rw [← ha.1]; exact h); rw [← ha.1] at this; exact this
     ·right; have:=dg_last hb.2.1 (i:=m) (by rw [← hb.1]; exact h); rw [← hb.1] at this; exact this
    have hq:plC a b (plSt a b m) m / 32768=0:=hz
    have hpc:plC a b (plSt a b m) m=(plSt a b m).1 + a.getD m 0 + b.getD m 0:=rfl
    have hs:(plSt a b (m + 1)).2=(plSt a b m).2++[plC a b (plSt a b m) m % 32768]:=rfl
    rw [hs,vl_append]
    exact (dg_snoc Q.low (by omega)).symm
  rw [e,hres]
  rfl
 ·have h1:(plSt a b n0).1=1:=by omega
  have ga:a.getD n0 0=0:=by rw [List.getD_eq_getElem?_getD,List.getElem?_eq_none (by omega)]; rfl
  have gb:b.getD n0 0=0:=by rw [List.getD_eq_getElem?_getD,List.getElem?_eq_none (by omega)]; rfl
  have hpc:plC a b (plSt a b n0) n0=1:=by unfold plC; omega
  have hs:plSt a b (n0 + 1)=(0,(plSt a b n0).2++[1]):=by
   show (plC a b (plSt a b n0) n0 / 32768,(plSt a b n0).2++[plC a b (plSt a b n0) n0 % 32768])=_
   rw [hpc]; rfl
  have e:iterL 30 f ([],0,0,())=some (.brk 0 ((plSt a b (n0 + 1)).2,(plSt a b (n0 + 1)).1,((n0 + 1:Nat):Int),())):=
   iterL_count (f:=f) (fun i:Nat=>((plSt a b i).2,(plSt a b i).1,(i:Int),())) (fun y e=>by cases e) (n0 + 1) (fun i hi=>by
    rcases Nat.lt_or_ge i n0 with h | h
    ·exact hgo i h
    ·have:i=n0:=by omega
     subst this
     rw [← hf]
     dsimp only
     rw [plB_step wa wb (by omega),decide_eq_false (by omega),decide_eq_false (show ¬ (n0:Int) < (b.length:Int) by omega),h1]
     rfl) (hend (n0 + 1) (by omega) (by omega) (by rw [hs])) 0 (Nat.zero_le _) 30 (by omega)
  have hres:(plSt a b (n0 + 1)).2=dg (vl a + vl b):=by
   rw [hs,← hv,h1]
   have hl:=P.len
   have:=dg_snoc P.low (x:=1) (by omega)
   rw [hl] at this
   exact this.symm
  rw [e,hres]
  rfl
theorem plusDS_ok:FspOk Tryz.prog 200 plusDS:=tower_S fs_nil sp_nil ⟨Tryz.func200,fun _ _=>by kernel_rfl⟩ (by intro α args k; unfold plusDS; split<;>simp only [cond_bind,Option.bind_some,Option.bind_none]) fun args out hs h=>by
 unfold plusDS at h
 split at h
 ·rename_i a b
  cases hb:isD a&&isD b
  ·rw [hb] at h; cases h
  ·rw [hb] at h
   rw [Bool.and_eq_true] at hb
   exact ⟨30,0,(plusD_plain a b hb.1 hb.2 some).trans h⟩
 ·cases h
def fnA:FuncId→Option Fsp:=fun g=>
 if g=195 then some ofS else
 if g=218 then some trimS else
 if g=196 then some orderS else
 if g=200 then some plusDS else
 none
theorem fnA_ok:FsOk fnA:=
 fs_cons ofS_ok <|
 fs_cons trimS_ok <|
 fs_cons orderS_ok <|
 fs_cons plusDS_ok <|
 fs_nil
section
variable {α:Type}
end
/-! Products. -/
def timesDS:Fsp:=fun _ args k=>match args with
 | [.ro (.int .i64) a,.ro (.int .i64) b]=>bif isD a&&isD b then k (l1 (dg (vl a * vl b))) else none
 | _=>none
theorem timesD_text (N n0:Nat) (α:Type) (a b:List Int) (k:AOut→Option α):evFn real tab ((twT fnA (fun _=>none)).env real tab N n0) N Tryz.f198 α [lN a,lN b] k =
 if 0≤IntKind.i64.wrap ((a.length:Int) + (b.length:Int))∧IntKind.i64.wrap ((a.length:Int) + (b.length:Int))≤IntKind.i64.wrap ((a.length:Int) + (b.length:Int)) ∧
 IntKind.i64.wrap ((a.length:Int) + (b.length:Int)) * ((8:Nat):Int)≤(room:Int) then afterL (iterL N (fun (x:Int × List Int × Unit)=>bif decide (x.1 < (a.length :
 Int)) then afterL (iterL N (fun (y:Int × Int × List Int × Unit)=>bif decide (y.2.1 < (b.length:Int)) then if 0≤IntKind.i64.wrap (x.1 + y.2.1)∧IntKind.i64.wrap (x.1 +
 y.2.1) < (y.2.2.1.length:Int) then if 0≤x.1∧x.1 < (a.length:Int) then if 0≤y.2.1∧y.2.1 < (b.length:Int) then if 0≤IntKind.i64.wrap (x.1 + y.2.1)∧IntKind.i64.wrap
 (x.1 + y.2.1) < (y.2.2.1.length:Int) then some (LRes.cont (IntKind.i64.wrap ((IntKind.i64.wrap (IntKind.i64.wrap (y.1 + y.2.2.1.getD (IntKind.i64.wrap (x.1 + y.2.1)).toNat
 (Int.ofNat 0)) + IntKind.i64.wrap (a.getD x.1.toNat (Int.ofNat 0) * b.getD y.2.1.toNat (Int.ofNat 0)))).tdiv 32768),IntKind.i64.wrap (y.2.1 + 1),y.2.2.1.set (IntKind.i64.wrap (x.1
 + y.2.1)).toNat ((IntKind.i64.wrap (IntKind.i64.wrap (y.1 + y.2.2.1.getD (IntKind.i64.wrap (x.1 + y.2.1)).toNat (Int.ofNat 0)) + IntKind.i64.wrap (a.getD x.1.toNat (Int.ofNat 0) *
 b.getD y.2.1.toNat (Int.ofNat 0)))).tmod 32768),())) else none else none else none else none else some (LRes.brk 2 (y.1,y.2.1,y.2.2.1,()))) (0,0,x.2.1,())) fun id y=>if id
 = 2 then if 0≤IntKind.i64.wrap (x.1 + (b.length:Int))∧IntKind.i64.wrap (x.1 + (b.length:Int)) < (y.2.2.1.length:Int) then some (LRes.cont (IntKind.i64.wrap (x.1 + 1),
 y.2.2.1.set (IntKind.i64.wrap (x.1 + (b.length:Int))).toNat y.1,())) else none else none else some (LRes.brk 0 (x.1,x.2.1,()))) (0,List.replicate (IntKind.i64.wrap ((a.length
 : Int) + (b.length:Int))).toNat (Int.ofNat 0),())) fun id y=>if id=0 then k (l1 (trimL y.2.1)) else none else none:=by kernel_rfl
theorem timesD_plain {α:Type} (a b:List Int) (ha:isD a=true) (hb:isD b=true) (k:AOut→Option α):evFn real tab ((twT fnA (fun _=>none)).env real tab 30 0) 30 Tryz.f198 α [lN a,lN b] k=k (l1 (dg (vl a * vl b))):=by
 rw [timesD_text]
 have la:=isD_len ha
 have lb:=isD_len hb
 have wa:=isD_low ha
 have wb:=isD_low hb
 rw [w64 ((a.length:Int) + (b.length:Int)) (by omega),if_pos ⟨by omega,by omega,by rw [roomx]; omega⟩]
 generalize hf:(fun x:Int × List Int × Unit=>(_:Option (LRes (Int × List Int × Unit) α)))=f
 have hrep:List.replicate ((a.length:Int) + (b.length:Int)).toNat (Int.ofNat 0)=outSt a b 0:=by
  rw [show ((a.length:Int) + (b.length:Int)).toNat=a.length + b.length by omega]; rfl
 rw [hrep]
 have e:iterL 30 f (0,outSt a b 0,())=some (.brk 0 ((a.length:Int),outSt a b a.length,())):=by
  refine iterL_count (f:=f) (fun i:Nat=>((i:Int),outSt a b i,())) (fun y e=>by cases e) a.length (fun i hi=>?_) ?_ 0 (Nat.zero_le _) 30 (by omega)
  ·rw [← hf]
   have O:=out_is wa wb i (by omega)
   have Ol:=O.len
   dsimp only
   rw [decide_eq_true (by omega),cond_true]
   generalize hg:(fun y:Int × Int × List Int × Unit=>(_:Option (LRes (Int × Int × List Int × Unit) (LRes (Int × List Int × Unit) α))))=g
   have e2:iterL 30 g (0,0,outSt a b i,())=some (.brk 2 ((inSt (a.getD i 0) b i (outSt a b i) b.length).1,(b.length:Int),(inSt (a.getD i 0) b i (outSt a b i) b.length).2,())):=by
    refine iterL_count (f:=g) (fun q:Nat=>((inSt (a.getD i 0) b i (outSt a b i) q).1,(q:Int),(inSt (a.getD i 0) b i (outSt a b i) q).2,())) (fun y e=>by cases e) b.length (fun q hq=>?_) ?_ 0 (Nat.zero_le _) 30 (by omega)
    ·rw [← hg]
     have I:=in_is (low_get wa i) wb O.low (i:=i) (by omega) q (by omega)
     have Il:=I.len
     have hc:=inC_in (low_get wa i) wb I
     have h1:=I.c
     have h2:=low_get I.low (i + q)
     have h3:=low_get wb q
     have h4:=low_get wa i
     have h5:0≤a.getD i 0 * b.getD q 0:=Int.mul_nonneg h4.1 h3.1
     have h6:a.getD i 0 * b.getD q 0≤32767 * 32767:=Int.mul_le_mul (by omega) (by omega) h3.1 (by omega)
     have hcc:inC (a.getD i 0) b i (inSt (a.getD i 0) b i (outSt a b i) q) q=(inSt (a.getD i 0) b i (outSt a b i) q).1 + (inSt (a.getD i 0) b i (outSt a b i) q).2.getD (i + q) 0 + a.getD i 0 * b.getD q 0:=rfl
     dsimp only
     have hz:((i:Int) + (q:Int)).toNat=i + q:=by omega
     rw [decide_eq_true (by omega),cond_true,w64 ((i:Int) + (q:Int)) (by omega),hz,if_pos ⟨by omega,by omega⟩,if_pos ⟨by omega,by omega⟩,if_pos ⟨by omega,by omega⟩,if_pos ⟨by omega,by omega⟩]
     rw [show ((i:Int)).toNat=i from rfl,show ((q:Int)).toNat=q from rfl,show Int.ofNat 0=0 from rfl]
     rw [w64 ((inSt (a.getD i 0) b i (outSt a b i) q).1 + _) (by omega),w64 (a.getD i 0 * b.getD q 0) (by omega),← hcc,w64 (inC _ _ _ _ _) (by omega),Int.tmod_eq_emod_of_nonneg hc.1,Int.tdiv_eq_ediv_of_nonneg hc.1,w64 (inC _ _ _ _ _ / 32768) (by omega),w64 ((q:Int) + 1) (by omega)]
     rfl
    ·rw [← hg]
     have h1:decide ((b.length:Int) < (b.length:Int))=false:=decide_eq_false (by omega)
     simp only [h1,cond_false]
   have I:=in_is (low_get wa i) wb O.low (i:=i) (by omega) b.length (Nat.le_refl _)
   have Il:=I.len
   rw [e2]
   have hz:((i:Int) + (b.length:Int)).toNat=i + b.length:=by omega
   simp only [afterL]
   rw [if_pos trivial,w64 ((i:Int) + (b.length:Int)) (by omega),hz,w64 ((i:Int) + 1) (by omega)]
   rw [if_pos ⟨by omega,by show _ < ((inSt (a.getD i 0) b i (outSt a b i) b.length).2.length:Int); omega⟩]
   rfl
  ·rw [← hf]
   have h1:decide ((a.length:Int) < (a.length:Int))=false:=decide_eq_false (by omega)
   simp only [h1,cond_false]
 rw [e]
 show k (l1 (trimL (outSt a b a.length)))=_
 rw [out_dg (isD_isDg ha) (isD_isDg hb)]
theorem timesDS_ok:FspOk Tryz.prog 198 timesDS:=tower_S fnA_ok sp_nil ⟨Tryz.func198,fun _ _=>by kernel_rfl⟩ (by intro α args k; unfold timesDS; split<;>simp only [cond_bind,Option.bind_some,Option.bind_none]) fun args out hs h=>by
 unfold timesDS at h
 split at h
 ·rename_i a b
  cases hb:isD a&&isD b
  ·rw [hb] at h; cases h
  ·rw [hb] at h
   rw [Bool.and_eq_true] at hb
   exact ⟨30,0,(timesD_plain a b hb.1 hb.2 some).trans h⟩
 ·cases h
def fnB:FuncId→Option Fsp:=fun g=>
 if g=198 then some timesDS else
 fnA g
theorem fnB_ok:FsOk fnB:=
 fs_cons timesDS_ok <|
 fnA_ok
theorem bit_searchK {α:Type} {f:Int × Int × Unit→Option (LRes (Int × Int × Unit) α)} (bid:Nat) (p:Nat→Bool) (K:Nat)
  (hf:∀ n k,n % 2 ^ (k + 1)=0→n + 2 ^ (k + 1)≤2 ^ K→p n=true→f ((n:Int),((2 ^ k:Nat):Int),())=some (.cont (((bif p (n + 2 ^ k) then n + 2 ^ k else n:Nat):Int),((2 ^ k / 2:Nat):Int),())))
  (hend:∀ n:Nat,f ((n:Int),0,())=some (.brk bid ((n:Int),0,()))) :
  ∀ (k:Nat) (n:Nat),n % 2 ^ k=0→n + 2 ^ k≤2 ^ K→p n=true→∀ N,k < N→iterL N f ((n:Int),((2 ^ k / 2:Nat):Int),())=some (.brk bid (((bs p k n:Nat):Int),0,()))
 | 0,n,h1,h2,h3,N,hN=>by
   obtain ⟨N,rfl⟩:∃ M,N=M + 1:=⟨N - 1,by omega⟩
   have e:(((2 ^ 0 / 2:Nat)):Int)=0:=rfl
   rw [e]
   simp only [iterL,hend]
   rfl
 | k + 1,n,h1,h2,h3,N,hN=>by
   obtain ⟨N,rfl⟩:∃ M,N=M + 1:=⟨N - 1,by omega⟩
   have e0:2 ^ (k + 1) / 2=2 ^ k:=by rw [Nat.pow_succ]; omega
   have e1:2 ^ (k + 1)=2 ^ k + 2 ^ k:=by rw [Nat.pow_succ]; omega
   have hd:n % 2 ^ k=0:=by
    have:(n % 2 ^ (k + 1)) % 2 ^ k=n % 2 ^ k:=Nat.mod_mod_of_dvd _ ⟨2,by rw [Nat.pow_succ]⟩
    rw [h1] at this
    simpa using this.symm
   have hf':=hf n k h1 h2 h3
   rw [e0]
   simp only [iterL,hf',bs]
   cases hp:p (n + 2 ^ k)
   ·exact bit_searchK bid p K hf hend k n hd (by omega) h3 N (by omega)
   ·exact bit_searchK bid p K hf hend k (n + 2 ^ k) (by rw [Nat.add_mod_right]; exact hd) (by omega) hp N (by omega)
theorem cmp3_ge {a b:Int}:(cmp3 a b ≥ 0)↔b≤a:=by
 unfold cmp3
 repeat' split
 all_goals omega
theorem cmp3_le0 {a b:Int}:(cmp3 a b≤0)↔a≤b:=by
 unfold cmp3
 repeat' split
 all_goals omega
section
variable {α:Type} (N:Nat) (b R:List Int)
end
def fnC:FuncId→Option Fsp:=fun g=>
 fnB g
theorem fnC_ok:FsOk fnC:=
 fnB_ok
def i7 (x:Int):Bool:=decide (-9223372036854775807≤x)&&decide (x≤9223372036854775807)
theorem i7_iff {x:Int}:i7 x=true↔-9223372036854775807≤x∧x≤9223372036854775807:=by simp [i7]
theorem i7_ok {x:Int} (h:okB x=true):i7 x=true:=by rw [ok_iff] at h; rw [i7_iff]; omega
theorem i7_ab {x:Int} (h:i7 x=true):0≤ab x∧ab x≤9223372036854775807:=by rw [i7_iff] at h; unfold ab; split<;>omega
def rsizeS:Fsp:=fun _ args k=>match args with
 | [.int .i64 x]=>bif i7 x then k (i1 (ab x)) else none
 | _=>none
theorem rsize_text (N n0:Nat) (α:Type) (x:Int) (k:AOut→Option α):evFn real tab ((twT fnC (fun _=>none)).env real tab N n0) N Tryz.f199 α [iN x] k=bif decide (x < 0) then k (i1 (IntKind.i64.wrap (0 - x))) else k (i1 x):=by kernel_rfl
theorem rsizeS_ok:FspOk Tryz.prog 199 rsizeS:=tower_S fnC_ok sp_nil ⟨Tryz.func199,fun _ _=>by kernel_rfl⟩ (by intro α args k; unfold rsizeS; split<;>simp only [cond_bind,Option.bind_some,Option.bind_none]) fun args out hs h=>by
 unfold rsizeS at h
 split at h
 ·rename_i x
  cases hb:i7 x
  ·rw [hb] at h; cases h
  ·rw [hb,cond_true] at h
   rw [i7_iff] at hb
   refine ⟨1,0,(rsize_text 1 0 AOut x some).trans (Eq.trans ?_ h)⟩
   unfold ab
   by_cases hx:x < 0
   ·rw [decide_eq_true hx,cond_true,if_pos hx,w64 _ (by omega),Int.zero_sub]
   ·rw [decide_eq_false hx,cond_false,if_neg hx]
 ·cases h
section
variable {α:Type}
end
def fnD:FuncId→Option Fsp:=fun g=>
 if g=199 then some rsizeS else
 fnC g
theorem fnD_ok:FsOk fnD:=
 fs_cons rsizeS_ok <|
 fnC_ok
def rvalidS:Fsp:=fun _ args k=>match args with
 | [.int .i64 x]=>k (b1 (okB x))
 | _=>none
theorem rvalid_text (N n0:Nat) (α:Type) (x:Int) (k:AOut→Option α):evFn real tab ((twT fnD (fun _=>none)).env real tab N n0) N Tryz.f193 α [iN x] k=bif decide (x ≥ -70368744177664) then k (b1 (decide (x≤70368744177664))) else k (b1 false):=by kernel_rfl
theorem rvalidS_ok:FspOk Tryz.prog 193 rvalidS:=tower_S fnD_ok sp_nil ⟨Tryz.func193,fun _ _=>by kernel_rfl⟩ (by intro α args k; unfold rvalidS; split<;>rfl) fun args out hs h=>by
 unfold rvalidS at h
 split at h
 ·rename_i x
  refine ⟨1,0,(rvalid_text 1 0 AOut x some).trans (Eq.trans ?_ h)⟩
  have:okB x=(decide (x ≥ -70368744177664)&&decide (x≤70368744177664)):=rfl
  rw [this]
  cases decide (x ≥ -70368744177664)<;>rfl
 ·cases h
def rwayS:Fsp:=fun _ args k=>match args with
 | [.int .i64 x]=>k (b1 (wayB x))
 | _=>none
theorem rway_text (N n0:Nat) (α:Type) (x:Int) (k:AOut→Option α):evFn real tab ((twT fnD (fun _=>none)).env real tab N (n0 + 1)) N Tryz.f150 α [iN x] k=bif decide (0≤x) then k (b1 (decide (x≤3))) else k (b1 false):=by kernel_rfl
theorem rwayS_ok:FspOk Tryz.prog 150 rwayS:=tower_S fnD_ok sp_nil ⟨Tryz.func150,fun _ _=>by kernel_rfl⟩ (by intro α args k; unfold rwayS; split<;>rfl) fun args out hs h=>by
 unfold rwayS at h
 split at h
 ·rename_i x
  refine ⟨1,1,(rway_text 1 0 AOut x some).trans (Eq.trans ?_ h)⟩
  unfold wayB
  cases decide (0≤x)<;>rfl
 ·cases h
def squareDS:Fsp:=fun _ args k=>match args with
 | [.agg [.int .i64 x,.int .i64 y]]=>bif i7 x&&i7 y then k (l1 (dg (sq2 x y))) else none
 | _=>none
theorem i7_D {x:Int} (h:i7 x=true):isD (dg (ab x))=true∧vl (dg (ab x))=ab x∧(0≤ab x * ab x∧ab x * ab x≤85070591730234615847396907784232501249):=by
 have a:=i7_ab h
 exact ⟨isD_dg ⟨a.1,by omega⟩,vl_dg _ a.1,sq_in' a.1 a.2⟩
where
 sq_in' {x B:Int} (h0:0≤x) (h1:x≤B):0≤x * x∧x * x≤B * B:=⟨Int.mul_nonneg h0 h0,Int.mul_le_mul h1 h1 h0 (by omega)⟩
theorem squareD_text (N n0:Nat) (α:Type) (x y:Int) (k:AOut→Option α):evFn real tab ((twT fnD (fun _=>none)).env real tab N n0) N Tryz.f153 α [sN x y] k =
 bif i7 x then bif decide (0≤ab x)&&decide (ab x≤9223372036854775807) then bif i7 y then bif decide (0≤ab y)&&decide (ab y≤9223372036854775807) then bif isD (dg (ab x))
 && isD (dg (ab x)) then bif isD (dg (ab y))&&isD (dg (ab y)) then bif isD (dg (vl (dg (ab x)) * vl (dg (ab x))))&&isD (dg (vl (dg (ab y)) * vl (dg (ab y)))) then k (l1 (dg (vl
 (dg (vl (dg (ab x)) * vl (dg (ab x)))) + vl (dg (vl (dg (ab y)) * vl (dg (ab y))))))) else none else none else none else none else none else none else none:=by kernel_rfl
theorem squareDS_ok:FspOk Tryz.prog 153 squareDS:=tower_S fnD_ok sp_nil ⟨Tryz.func153,fun _ _=>by kernel_rfl⟩ (by intro α args k; unfold squareDS; split<;>simp only [cond_bind,Option.bind_some,Option.bind_none]) fun args out hs h=>by
 unfold squareDS at h
 split at h
 ·rename_i x y
  cases hb:i7 x&&i7 y
  ·rw [hb] at h; cases h
  ·rw [hb,cond_true] at h
   rw [Bool.and_eq_true] at hb
   obtain ⟨hx,hy⟩:=hb
   refine ⟨1,0,(squareD_text 1 0 AOut x y some).trans (Eq.trans ?_ h)⟩
   have a:=i7_ab hx
   have b:=i7_ab hy
   obtain ⟨x1,x2,x3⟩:=i7_D hx
   obtain ⟨y1,y2,y3⟩:=i7_D hy
   rw [hx,hy,decide_eq_true a.1,decide_eq_true a.2,decide_eq_true b.1,decide_eq_true b.2,x1,y1,x2,y2,isD_dg ⟨x3.1,by omega⟩,isD_dg ⟨y3.1,by omega⟩,vl_dg _ x3.1,vl_dg _ y3.1]
   rfl
 ·cases h
/-! Shares. -/
section
variable {α:Type} (N:Nat) (X:Int) (a:List Int)
end
/-! Numbers with a sign. -/
def fnE:FuncId→Option Fsp:=fun g=>
 fnD g
theorem fnE_ok:FsOk fnE:=
 fnD_ok
def fnF:FuncId→Option Fsp:=fun g=>
 fnE g
theorem fnF_ok:FsOk fnF:=
 fnE_ok
def fnG:FuncId→Option Fsp:=fun g=>
 if g=193 then some rvalidS else
 fnF g
theorem fnG_ok:FsOk fnG:=
 fs_cons rvalidS_ok <|
 fnF_ok
def fnH:FuncId→Option Fsp:=fun g=>
 if g=150 then some rwayS else
 fnG g
theorem fnH_ok:FsOk fnH:=
 fs_cons rwayS_ok <|
 fnG_ok
def fnI:FuncId→Option Fsp:=fun g=>
 if g=153 then some squareDS else
 fnH g
theorem fnI_ok:FsOk fnI:=
 fs_cons squareDS_ok <|
 fnH_ok
noncomputable def fnJ:FuncId→Option Fsp:=fun g=>
 fnI g
theorem fnJ_ok:FsOk fnJ:=
 fnI_ok
/-! Within. -/
/-! Unit. -/
def ftV (n:Int) (s:Bool):Int:=bif s&&okB n then n else 0
def ftE (n:Int) (s:Bool):Int:=bif s&&okB n then 0 else 4
def rfitS:Fsp:=fun _ args k=>match args with
 | [.int .i64 n,.bool s]=>k (.ret (.tup [iN (ftV n s),iN (ftE n s)]))
 | _=>none
theorem rfit_text (N n0:Nat) (α:Type) (n:Int) (s:Bool) (k:AOut→Option α):evFn real tab ((twT fnJ (fun _=>none)).env real tab N n0) N Tryz.f151 α [iN n,.bool s] k =
 bif !s then k (.ret (.tup [iN 0,iN 4])) else bif decide (n < -70368744177664) then k (.ret (.tup [iN 0,iN 4])) else bif decide (n > 70368744177664) then k (.ret (.tup [iN 0,iN
 4])) else k (.ret (.tup [iN n,iN 0])):=by kernel_rfl
theorem rfitS_ok:FspOk Tryz.prog 151 rfitS:=tower_S fnJ_ok sp_nil ⟨Tryz.func151,fun _ _=>by kernel_rfl⟩ (by intro α args k; unfold rfitS; split<;>rfl) fun args out hs h=>by
 unfold rfitS at h
 split at h
 ·rename_i n s
  refine ⟨1,0,(rfit_text 1 0 AOut n s some).trans (Eq.trans ?_ h)⟩
  have e:okB n=(!decide (n < -70368744177664)&&!decide (n > 70368744177664)):=by
   rw [Bool.eq_iff_iff,ok_iff]; simp
  unfold ftV ftE
  rw [e]
  cases s<;>cases decide (n < -70368744177664)<;>cases decide (n > 70368744177664)<;>rfl
 ·cases h
noncomputable def fnK:FuncId→Option Fsp:=fun g=>
 if g=151 then some rfitS else
 fnJ g
theorem fnK_ok:FsOk fnK:=
 fs_cons rfitS_ok <|
 fnJ_ok
/-! Products of spots. -/
noncomputable def fnL:FuncId→Option Fsp:=fun g=>
 fnK g
theorem fnL_ok:FsOk fnL:=
 fnK_ok
theorem wBc_ex:∃ f:Int→Bool,f=wB:=⟨_,rfl⟩
noncomputable def wBc:Int→Bool:=Classical.choose wBc_ex
theorem wBc_eq:wBc=wB:=Classical.choose_spec wBc_ex
noncomputable def prodCS:Fsp:=fun _ args k=>match args with
 | [.int .u64 x,.int .u64 y]=>bif wBc x&&wBc y then k (.ret (.agg [uN (hiW (x * y)),uN (loW (x * y))])) else none
 | _=>none
theorem prodCS_ok:FspOk Tryz.prog 44 prodCS:=by
 have e:prodCS=prodS:=by
  unfold prodCS prodS; first | (rw [wBc_eq]; done) | (rw [wBc_eq]; rfl)
 rw [e]; exact prodS_ok
noncomputable def cmpCS:Fsp:=fun _ args k=>match args with
 | [.agg [.int .u64 a,.int .u64 b],.agg [.int .u64 c,.int .u64 d]]=>bif wBc b&&wBc d then k (.ret (.int .i64 (cmp3 (vw a b) (vw c d)))) else none
 | _=>none
theorem cmpCS_ok:FspOk Tryz.prog 85 cmpCS:=by
 have e:cmpCS=cmpVS:=by
  unfold cmpCS cmpVS; first | (rw [wBc_eq]; done) | (rw [wBc_eq]; rfl)
 rw [e]; exact cmpVS_ok
set_option maxRecDepth 100000 in
theorem ways_text (N n0:Nat) (α:Type) (how:Int) (k:AOut→Option α):evFn real tab ((twT fsF spC).env real tab N (n0 + 8)) N Tryz.f41 α [.int .i64 how] k =
 bif how==0 then k (AOut.ret (AVal.fn 79 [])) else bif how==1 then k (AOut.ret (AVal.fn 80 [])) else bif how==2 then k (AOut.ret (AVal.fn 81 [])) else bif how==3 then k
 (AOut.ret (AVal.fn 82 [])) else k (AOut.pan (AVal.ifc 141 (AVal.agg [AVal.int IntKind.i64 2]))):=by kernel_rfl
noncomputable def waysS:Fsp:=fun _ args k=>match args with
 | [.int .i64 how]=>bif how==0 then k (.ret (.fn 79 [])) else bif how==1 then k (.ret (.fn 80 [])) else bif how==2 then k (.ret (.fn 81 [])) else bif how==3 then k (.ret (.fn 82 [])) else k (mis fxm 2)
 | _=>none
theorem waysS_ok:FspOk Tryz.prog 41 waysS:=tower_S fsF_ok spC_ok ⟨Tryz.func41,fun _ _=>by kernel_rfl⟩ (by intro α args k; unfold waysS; split<;>first | rfl | simp only [cond_bind,Option.bind_some]) fun args out hs h=>by
 unfold waysS at h
 split at h
 ·rename_i how
  exact ⟨8,8,(ways_text 8 0 AOut how some).trans h⟩
 ·cases h
noncomputable def fsL0:FuncId→Option Fsp:=fun g=>
 if g=41 then some waysS else
 if g=44 then some prodCS else
 if g=85 then some cmpCS else
 fsF g
theorem fsL0_ok:FsOk fsL0:=
 fs_cons waysS_ok <|
 fs_cons prodCS_ok <|
 fs_cons cmpCS_ok <|
 fsF_ok
noncomputable def wrBody {α:Type} (h l n b m:Int):Option (LRes (Int × Int × Unit) α):=
 bif decide (b > 0) then
  bif wBc m&&wBc m then
   bif wBc (loW (m * m))&&wBc l then
    bif decide (cmp3 (vw (hiW (m * m)) (loW (m * m))) (vw h l)≤0) then some (LRes.cont (m,b.fdiv (2 ^ min (Int.toNat 1) 64),()))
    else some (LRes.cont (n,b.fdiv (2 ^ min (Int.toNat 1) 64),()))
   else none
  else none
 else some (LRes.brk 0 (n,b,()))
set_option maxRecDepth 100000 in
theorem wroot_text (N n0:Nat) (α:Type) (h l:Int) (k:AOut→Option α):evFn real tab ((twT fsL0 spC).env real tab N (n0 + 8)) N Tryz.f83 α [.agg [.int .u64 h,.int .u64 l]] k =
 afterL (iterL N (fun x:Int × Int × Unit=>wrBody h l x.1 x.2.1 (IntKind.u64.wrap (((BitVec.ofInt 64 x.1 ||| BitVec.ofInt 64 x.2.1).toNat:Nat):Int))) (0,4611686018427387904,
 ())) fun id y=>if id=0 then k (.ret (.int .u64 y.1)) else none:=by kernel_rfl
def rtB (h l:Int):Bool:=(wB h&&wB l)&&decide (vw h l < 85070591730234615865843651857942052864)
def rtP (s:Int) (m:Nat):Bool:=decide ((m:Int) * m≤s)
theorem rt_bs (s:Int):rt s=((bs (rtP s) 63 0:Nat):Int):=by rw [rt_C]; rfl
theorem rtP_anti {s:Int} (m n:Nat) (h:n≤m) (hm:rtP s m=true):rtP s n=true:=by
 simp only [rtP,decide_eq_true_eq] at hm ⊢
 have:(n:Int) * n≤m * m:=Int.mul_le_mul (by omega) (by omega) (by omega) (by omega)
 omega
theorem rt_spec {s:Int} (h0:0≤s) (h1:s < 85070591730234615865843651857942052864):0≤rt s∧rt s * rt s≤s∧s < (rt s + 1) * (rt s + 1)∧rt s < 9223372036854775808:=by
 have p63:(2:Nat) ^ 63=9223372036854775808:=rfl
 have ht:rtP s (0 + 2 ^ 63)=false:=by
  rw [p63,Nat.zero_add]
  simp only [rtP,decide_eq_false_iff_not]
  intro h
  have h:(9223372036854775808:Int) * 9223372036854775808≤s:=h
  omega
 have a:=bs_spec (rtP s) (fun m n=>rtP_anti m n) 63 0 (by simp [rtP]; exact h0) ht
 rw [p63] at a
 rw [rt_bs]
 generalize bs (rtP s) 63 0=n at *
 simp only [rtP,decide_eq_true_eq,decide_eq_false_iff_not] at a
 have e:(((n + 1:Nat):Int))=(n:Int) + 1:=by omega
 rw [e] at a
 have hb:=a.2.2.2
 exact ⟨by omega,a.1,by omega,by omega⟩
theorem wroot_plain (N n0:Nat) (α:Type) {h l:Int} (hb:rtB h l=true) (k:AOut→Option α):evFn real tab ((twT fsL0 spC).env real tab (N + 64) (n0 + 8)) (N + 64) Tryz.f83 α [.agg [uN h,uN l]] k=k (.ret (.int .u64 (rt (vw h l)))):=by
 rw [wroot_text]
 simp only [rtB,Bool.and_eq_true,decide_eq_true_eq,wB_iff] at hb
 obtain ⟨⟨hh,hl⟩,hs⟩:=hb
 have hl':=hl
 unfold Word at hh hl
 have hs0:0≤vw h l:=by unfold vw; omega
 generalize hf:(fun y:Int × Int × Unit=>(_:Option (LRes (Int × Int × Unit) α)))=f
 have e:=bit_search (f:=f) (rtP (vw h l)) 63 (fun n k h1 h2 h3=>?_) (fun n=>?_) 63 0 rfl (by omega) (by simp [rtP]; exact hs0) (N + 64) (by omega)
 ·have q0:(2 ^ 63 / 2:Nat)=4611686018427387904:=rfl
  have q1:((4611686018427387904:Nat):Int)=4611686018427387904:=rfl
  rw [q0,q1] at e
  have e':iterL (N + 64) f (0,4611686018427387904,())=some (.brk 0 (((bs (rtP (vw h l)) 63 0:Nat):Int),0,())):=e
  rw [e',rt_bs]
  rfl
 ·rw [← hf]
  have p63:(2:Nat) ^ 63=9223372036854775808:=rfl
  have hk:2 ^ (k + 1)=2 ^ k + 2 ^ k:=by rw [Nat.pow_succ]; omega
  have hpos:0 < 2 ^ k:=Nat.two_pow_pos k
  have hor:IntKind.u64.wrap (((BitVec.ofInt 64 (n:Int) ||| BitVec.ofInt 64 ((2 ^ k:Nat):Int)).toNat:Nat):Int)=((n + 2 ^ k:Nat):Int):=by
   rw [or_add (k + 1) (by omega) (by omega) (by omega) (by omega)]; omega
  have hsh:(((2 ^ k:Nat):Int)).fdiv (2 ^ min (Int.toNat 1) 64)=((2 ^ k / 2:Nat):Int):=by
   rw [show (2:Int) ^ min (Int.toNat 1) 64=2 from rfl,fdiv_pos _ (by omega)]; omega
  show wrBody h l (n:Int) ((2 ^ k:Nat):Int) _=_
  rw [hor]
  unfold wrBody
  rw [hsh,decide_eq_true (show ((2 ^ k:Nat):Int) > 0 by omega),wBc_eq]
  have w1:wB ((n + 2 ^ k:Nat):Int)=true:=by rw [wB_iff]; unfold Word; omega
  rw [w1,lo_wB,wB_iff.2 hl',cmp3_le,vw_hl,Bool.and_self,cond_true,cond_true,cond_true]
  show (bif rtP (vw h l) (n + 2 ^ k) then _ else _)=_
  cases rtP (vw h l) (n + 2 ^ k)<;>rfl
 ·rw [← hf]
  rfl
noncomputable def rootWS:Fsp:=fun _ args k=>match args with
 | [.agg [.int .u64 h,.int .u64 l]]=>bif rtB h l then k (.ret (.int .u64 (rt (vw h l)))) else none
 | _=>none
theorem rootWS_ok:FspOk Tryz.prog 83 rootWS:=tower_S fsL0_ok spC_ok ⟨Tryz.func83,fun _ _=>by kernel_rfl⟩ (by intro α args k; unfold rootWS; split<;>simp only [cond_bind,Option.bind_some,Option.bind_none]) fun args out hs hq=>by
 unfold rootWS at hq
 split at hq
 ·rename_i h l
  cases hb:rtB h l
  ·rw [hb] at hq; cases hq
  ·rw [hb,cond_true] at hq
   exact ⟨64,8,(wroot_plain 0 0 AOut hb some).trans hq⟩
 ·cases hq
noncomputable def spL:FuncId→Option (Cv→Cv):=fun g=>
 spC g
theorem spL_ok:SpOk spL:=
 spC_ok
/-! How a way rounds. -/
set_option maxRecDepth 100000 in
theorem way0_text (N n0:Nat) (α:Type) (x:Int) (b:Bool) (k:AOut→Option α):evFn real tab ((twT fsL0 spC).env real tab N (n0 + 8)) N Tryz.f79 α [.int .i64 x,.bool b] k =
 k (AOut.ret (AVal.bool false)):=by kernel_rfl
set_option maxRecDepth 100000 in
theorem way1_text (N n0:Nat) (α:Type) (x:Int) (b:Bool) (k:AOut→Option α):evFn real tab ((twT fsL0 spC).env real tab N (n0 + 8)) N Tryz.f80 α [.int .i64 x,.bool b] k =
 k (AOut.ret (AVal.bool b)):=by kernel_rfl
set_option maxRecDepth 100000 in
theorem way2_text (N n0:Nat) (α:Type) (x:Int) (b:Bool) (k:AOut→Option α):evFn real tab ((twT fsL0 spC).env real tab N (n0 + 8)) N Tryz.f81 α [.int .i64 x,.bool b] k =
 k (AOut.ret (AVal.bool !b)):=by kernel_rfl
set_option maxRecDepth 100000 in
theorem way3_text (N n0:Nat) (α:Type) (x:Int) (b:Bool) (k:AOut→Option α):evFn real tab ((twT fsL0 spC).env real tab N (n0 + 8)) N Tryz.f82 α [.int .i64 x,.bool b] k =
 k (AOut.ret (AVal.bool (decide (x ≥ 0)))):=by kernel_rfl
theorem way0_fin (x:Int) (b:Bool) (hs:∀ c∈([.int .i64 x,.bool b]:List AVal),Sm c):∃ N n,∀ α (k:AOut→Option α),evFn real tab ((twT fsL0 spC).env real tab N n) N Tryz.f79 α [.int .i64 x,.bool b] k=k (b1 false):=by
 exact ⟨8,8,fun α k=>way0_text 8 0 α x b k⟩
noncomputable def way0S:Fsp:=fun _ args k=>match args with
 | [.int .i64 x,.bool b]=>k (b1 false)
 | _=>none
theorem way0S_ok:FspOk Tryz.prog 79 way0S:=tower_S fsL0_ok spC_ok ⟨Tryz.func79,fun _ _=>by kernel_rfl⟩ (by intro α args k; unfold way0S; split<;>rfl) fun args out hSm hEq=>by
 unfold way0S at hEq
 split at hEq
 ·rename_i x b
  obtain ⟨N,n,e⟩:=way0_fin x b hSm
  exact ⟨N,n,(e AOut some).trans hEq⟩
 ·cases hEq
theorem way1_fin (x:Int) (b:Bool) (hs:∀ c∈([.int .i64 x,.bool b]:List AVal),Sm c):∃ N n,∀ α (k:AOut→Option α),evFn real tab ((twT fsL0 spC).env real tab N n) N Tryz.f80 α [.int .i64 x,.bool b] k=k (b1 b):=by
 exact ⟨8,8,fun α k=>way1_text 8 0 α x b k⟩
noncomputable def way1S:Fsp:=fun _ args k=>match args with
 | [.int .i64 x,.bool b]=>k (b1 b)
 | _=>none
theorem way1S_ok:FspOk Tryz.prog 80 way1S:=tower_S fsL0_ok spC_ok ⟨Tryz.func80,fun _ _=>by kernel_rfl⟩ (by intro α args k; unfold way1S; split<;>rfl) fun args out hSm hEq=>by
 unfold way1S at hEq
 split at hEq
 ·rename_i x b
  obtain ⟨N,n,e⟩:=way1_fin x b hSm
  exact ⟨N,n,(e AOut some).trans hEq⟩
 ·cases hEq
theorem way2_fin (x:Int) (b:Bool) (hs:∀ c∈([.int .i64 x,.bool b]:List AVal),Sm c):∃ N n,∀ α (k:AOut→Option α),evFn real tab ((twT fsL0 spC).env real tab N n) N Tryz.f81 α [.int .i64 x,.bool b] k=k (b1 (!b)):=by
 exact ⟨8,8,fun α k=>way2_text 8 0 α x b k⟩
noncomputable def way2S:Fsp:=fun _ args k=>match args with
 | [.int .i64 x,.bool b]=>k (b1 (!b))
 | _=>none
theorem way2S_ok:FspOk Tryz.prog 81 way2S:=tower_S fsL0_ok spC_ok ⟨Tryz.func81,fun _ _=>by kernel_rfl⟩ (by intro α args k; unfold way2S; split<;>rfl) fun args out hSm hEq=>by
 unfold way2S at hEq
 split at hEq
 ·rename_i x b
  obtain ⟨N,n,e⟩:=way2_fin x b hSm
  exact ⟨N,n,(e AOut some).trans hEq⟩
 ·cases hEq
theorem way3_fin (x:Int) (b:Bool) (hs:∀ c∈([.int .i64 x,.bool b]:List AVal),Sm c):∃ N n,∀ α (k:AOut→Option α),evFn real tab ((twT fsL0 spC).env real tab N n) N Tryz.f82 α [.int .i64 x,.bool b] k=k (b1 (decide (x ≥ 0))):=by
 exact ⟨8,8,fun α k=>way3_text 8 0 α x b k⟩
noncomputable def way3S:Fsp:=fun _ args k=>match args with
 | [.int .i64 x,.bool b]=>k (b1 (decide (x ≥ 0)))
 | _=>none
theorem way3S_ok:FspOk Tryz.prog 82 way3S:=tower_S fsL0_ok spC_ok ⟨Tryz.func82,fun _ _=>by kernel_rfl⟩ (by intro α args k; unfold way3S; split<;>rfl) fun args out hSm hEq=>by
 unfold way3S at hEq
 split at hEq
 ·rename_i x b
  obtain ⟨N,n,e⟩:=way3_fin x b hSm
  exact ⟨N,n,(e AOut some).trans hEq⟩
 ·cases hEq
set_option maxRecDepth 100000 in
theorem up2_text (N n0:Nat) (α:Type) (h l:Int) (k:AOut→Option α):evFn real tab ((twT fsL0 spC).env real tab N (n0 + 8)) N Tryz.f84 α [.agg [.int .u64 h,.int .u64 l],.int .u64 2] k =
 k (AOut.ret (AVal.agg [AVal.int IntKind.u64 (IntKind.u64.wrap (↑(BitVec.ofInt 64 (IntKind.u64.wrap (h * 2 ^ min (Int.toNat 2) 64)) ||| BitVec.ofInt 64 (l.fdiv (2 ^ min
 (IntKind.u64.wrap (64 - 2)).toNat 64))).toNat:Int)),AVal.int IntKind.u64 (IntKind.u64.wrap (l * 2 ^ min (Int.toNat 2) 64))])):=by kernel_rfl
noncomputable def up2S:Fsp:=fun _ args k=>match args with
 | [.agg [.int .u64 h,.int .u64 l],.int .u64 n]=>bif n==2&&rtB h l then k (.ret (.agg [uN (hiW (4 * vw h l)),uN (loW (4 * vw h l))])) else none
 | _=>none
theorem up2_plain {h l:Int} (hb:rtB h l=true):IntKind.u64.wrap (((BitVec.ofInt 64 (IntKind.u64.wrap (h * 2 ^ min (Int.toNat 2) 64)) ||| BitVec.ofInt 64 (l.fdiv (2 ^ min (IntKind.u64.wrap (64 - 2)).toNat 64))).toNat:Nat):Int)=hiW (4 * vw h l)∧IntKind.u64.wrap (l * 2 ^ min (Int.toNat 2) 64)=loW (4 * vw h l):=by
 simp only [rtB,Bool.and_eq_true,decide_eq_true_eq,wB_iff] at hb
 obtain ⟨⟨hh,hl⟩,hs⟩:=hb
 unfold Word at hh hl
 have k4:(2:Int) ^ min (Int.toNat 2) 64=4:=rfl
 have k62:(2:Int) ^ min (IntKind.u64.wrap (64 - 2)).toNat 64=4611686018427387904:=by
  have:(IntKind.u64.wrap (64 - 2)).toNat=62:=by rw [IntKind.wrap_u64]; rfl
  rw [this]; rfl
 have hv:vw h l=h * 18446744073709551616 + l:=rfl
 rw [hv] at hs ⊢
 rw [k4,k62,fdiv_pos _ (by omega),u64w (h * 4) (by omega),or_add 2 (by omega) (by omega) (by omega) (by omega),IntKind.wrap_u64]
 unfold hiW loW
 exact ⟨by omega,by omega⟩
theorem up2S_ok:FspOk Tryz.prog 84 up2S:=tower_S fsL0_ok spC_ok ⟨Tryz.func84,fun _ _=>by kernel_rfl⟩ (by intro α args k; unfold up2S; split<;>simp only [cond_bind,Option.bind_some,Option.bind_none]) fun args out hs hq=>by
 unfold up2S at hq
 split at hq
 ·rename_i h l n
  by_cases hn:n=2
  ·subst hn
   cases hb:rtB h l
   ·rw [hb] at hq; cases hq
   ·rw [hb] at hq
    refine ⟨8,8,(up2_text 8 0 AOut h l some).trans (Eq.trans ?_ hq)⟩
    rw [(up2_plain hb).1,(up2_plain hb).2]
    rfl
  ·rw [show (n==2)=false by simp [hn]] at hq; cases hq
 ·cases hq
noncomputable def fsL1:FuncId→Option Fsp:=fun g=>
 if g=83 then some rootWS else
 if g=79 then some way0S else
 if g=80 then some way1S else
 if g=81 then some way2S else
 if g=82 then some way3S else
 if g=84 then some up2S else
 fsL0 g
theorem fsL1_ok:FsOk fsL1:=
 fs_cons rootWS_ok <|
 fs_cons way0S_ok <|
 fs_cons way1S_ok <|
 fs_cons way2S_ok <|
 fs_cons way3S_ok <|
 fs_cons up2S_ok <|
 fsL0_ok
noncomputable def rEnd {α:Type} (x:Int) (k:AOut→Option α):Option α:=bif wB x then (bif fxB x then k (i1 (sg false x)) else k (mis fxm 4)) else none
noncomputable def rootText {α:Type} (h l r m r1:Int) (u:Bool) (k:AOut→Option α):Option α:=
 bif rtB h l then
  bif wBc r&&wBc r then
   bif !(hiW (r * r)==h&&(loW (r * r)==l&&true)) then
    bif (2:Int)==2&&rtB h l then
     bif wBc m&&wBc m then
      bif wBc (loW (4 * vw h l))&&wBc (loW (m * m)) then (bif u then rEnd r1 k else rEnd r k)
      else none
     else none
    else none
   else rEnd r k
  else none
 else none
noncomputable def upW (how s:Int):Bool:=if how=2 then true else if how=3 then decide ((2 * rt s + 1) * (2 * rt s + 1)≤4 * s) else false
theorem ge_cmp3 (a b:Int):decide (cmp3 a b ≥ 0)=decide (b≤a):=by
 unfold cmp3
 rw [decide_eq_decide]
 split
 ·constructor<;>intro _<;>omega
 ·split<;>constructor<;>intro _<;>omega
theorem vw_eq {x h l:Int} (hl:Word l):(hiW x==h&&(loW x==l&&true))=(x==vw h l):=by
 rw [Bool.and_true,Bool.eq_iff_iff,Bool.and_eq_true,beq_iff_eq,beq_iff_eq,beq_iff_eq]
 unfold hiW loW vw
 unfold Word at hl
 constructor
 ·rintro ⟨rfl,rfl⟩; omega
 ·intro h; subst h; omega
theorem rEnd_of {α:Type} {x:Int} (h:0≤x∧x < 18446744073709551616) (k:AOut→Option α):rEnd x k=fitK false x k:=by
 unfold rEnd; rw [wB_iff.2 h]; rfl
theorem root_fin {α:Type} {h l how:Int} (hb:rtB h l=true) {u:Bool} (hu:u=upW how (vw h l)) (k:AOut→Option α):rootText h l (rt (vw h l)) (2 * rt (vw h l) + 1) (rt (vw h l) + 1) u k=fitK false (rtN (vw h l) how) k:=by
 have hb':=hb
 simp only [rtB,Bool.and_eq_true,decide_eq_true_eq,wB_iff] at hb'
 obtain ⟨⟨hh,hl⟩,hs⟩:=hb'
 have h0:0≤vw h l:=by unfold vw Word at *; omega
 obtain ⟨a,b,c,d⟩:=rt_spec h0 hs
 unfold rootText
 rw [hb,vw_eq hl,wBc_eq,wB_iff.2 (show Word (rt (vw h l)) from ⟨a,by omega⟩),wB_iff.2 (show Word (2 * rt (vw h l) + 1) from ⟨by omega,by omega⟩),lo_wB,lo_wB,rEnd_of (x:=rt (vw h l)) ⟨a,by omega⟩,rEnd_of (x:=rt (vw h l) + 1) ⟨by omega,by omega⟩,hu]
 unfold rtN
 generalize vw h l=s at *
 have sq:(2 * rt s + 1) * (2 * rt s + 1)=4 * (rt s * rt s) + 4 * rt s + 1:=by
  rw [Int.add_mul,Int.mul_add,Int.one_mul,Int.mul_one,show 2 * rt s * (2 * rt s)=4 * (rt s * rt s) by rw [Int.mul_assoc,Int.mul_left_comm (rt s) 2,← Int.mul_assoc]; rfl]
  omega
 have e2:((2:Int)==2)=true:=rfl
 unfold upW rtUp
 rw [e2]
 by_cases hq:rt s * rt s=s
 ·have e3:(rt s * rt s==s)=true:=by rw [hq]; simp
  have e4:decide ((2 * rt s + 1) * (2 * rt s + 1)≤4 * s)=false:=decide_eq_false (by omega)
  rw [e3,e4]
  split
  ·simp
  ·split<;>simp
 ·have e3:(rt s * rt s==s)=false:=by simpa using hq
  rw [e3]
  split
  ·simp
  ·split
   ·cases decide ((2 * rt s + 1) * (2 * rt s + 1)≤4 * s)<;>simp
   ·simp
noncomputable def rootFS:Fsp:=fun _ args k=>match args with
 | [.agg [.int .u64 h,.int .u64 l],.fn g []]=>
   match howOf g with
   | some how=>bif rtB h l then fitK false (rtN (vw h l) how) k else none
   | none=>none
 | _=>none
noncomputable abbrev rM (h l:Int):Int:=IntKind.u64.wrap (IntKind.u64.wrap (2 * rt (vw h l)) + 1)
noncomputable abbrev rO (h l:Int):Int:=IntKind.u64.wrap (rt (vw h l) + 1)
set_option maxRecDepth 100000 in
theorem root0_text (N n:Nat) (α:Type) (h l:Int) (k:AOut→Option α):evFn real tab ((twT fsL1 spC).env real tab N (n + 8)) N Tryz.f43 α [.agg [uN h,uN l],.fn 79 []] k=rootText h l (rt (vw h l)) (rM h l) (rO h l) false k:=by kernel_rfl
set_option maxRecDepth 100000 in
theorem root1_text (N n:Nat) (α:Type) (h l:Int) (k:AOut→Option α):evFn real tab ((twT fsL1 spC).env real tab N (n + 8)) N Tryz.f43 α [.agg [uN h,uN l],.fn 80 []] k=rootText h l (rt (vw h l)) (rM h l) (rO h l) false k:=by kernel_rfl
set_option maxRecDepth 100000 in
theorem root2_text (N n:Nat) (α:Type) (h l:Int) (k:AOut→Option α):evFn real tab ((twT fsL1 spC).env real tab N (n + 8)) N Tryz.f43 α [.agg [uN h,uN l],.fn 81 []] k=rootText h l (rt (vw h l)) (rM h l) (rO h l) true k:=by kernel_rfl
set_option maxRecDepth 100000 in
theorem root3_text (N n:Nat) (α:Type) (h l:Int) (k:AOut→Option α):evFn real tab ((twT fsL1 spC).env real tab N (n + 8)) N Tryz.f43 α [.agg [uN h,uN l],.fn 82 []] k=rootText h l (rt (vw h l)) (rM h l) (rO h l) (decide (cmp3 (vw (hiW (4 * vw h l)) (loW (4 * vw h l))) (vw (hiW (rM h l * rM h l)) (loW (rM h l * rM h l))) ≥ 0)) k:=by kernel_rfl
theorem rM_eq {h l:Int} (hb:rtB h l=true):rM h l=2 * rt (vw h l) + 1∧rO h l=rt (vw h l) + 1:=by
 simp only [rtB,Bool.and_eq_true,decide_eq_true_eq,wB_iff] at hb
 obtain ⟨⟨hh,hl⟩,hs⟩:=hb
 obtain ⟨a,b,c,d⟩:=rt_spec (s:=vw h l) (by unfold vw Word at *; omega) hs
 unfold rM rO
 rw [u64w (2 * rt (vw h l)) (by omega),u64w (2 * rt (vw h l) + 1) (by omega),u64w (rt (vw h l) + 1) (by omega)]
 exact ⟨rfl,rfl⟩
theorem rootFS_ok:FspOk Tryz.prog 43 rootFS:=tower_S fsL1_ok spC_ok ⟨Tryz.func43,fun _ _=>by kernel_rfl⟩ (by intro α args k; unfold rootFS; split<;>(try split)<;>simp only [cond_bind,fitK_bind,Option.bind_some,Option.bind_none]) fun args out hs hq=>by
 unfold rootFS at hq
 split at hq
 ·rename_i h l g
  split at hq
  ·rename_i how hg
   cases hb:rtB h l
   ·rw [hb] at hq; cases hq
   ·rw [hb,cond_true] at hq
    obtain ⟨m1,m2⟩:=rM_eq hb
    rcases how_cases hg with hf | ⟨rfl,rfl⟩ | ⟨rfl,rfl⟩ | ⟨rfl,rfl⟩ | ⟨rfl,rfl⟩
    ·cases hf
    ·refine ⟨64,8,(root0_text 64 0 AOut h l some).trans (Eq.trans ?_ hq)⟩
     rw [m1,m2]; exact root_fin (how:=0) hb (by simp [upW]) some
    ·refine ⟨64,8,(root1_text 64 0 AOut h l some).trans (Eq.trans ?_ hq)⟩
     rw [m1,m2]; exact root_fin (how:=1) hb (by simp [upW]) some
    ·refine ⟨64,8,(root2_text 64 0 AOut h l some).trans (Eq.trans ?_ hq)⟩
     rw [m1,m2]; exact root_fin (how:=2) hb (by simp [upW]) some
    ·refine ⟨64,8,(root3_text 64 0 AOut h l some).trans (Eq.trans ?_ hq)⟩
     rw [m1,m2,vw_hl,vw_hl,ge_cmp3]; exact root_fin (how:=3) hb (by simp [upW]) some
  ·cases hq
 ·cases hq
noncomputable def fsL2:FuncId→Option Fsp:=fun g=>
 if g=43 then some rootFS else
 fsL1 g
theorem fsL2_ok:FsOk fsL2:=
 fs_cons rootFS_ok <|
 fsL1_ok
noncomputable def rtBr {α:Type} (h l how:Int) (k:AOut→Option α):Option α:=
 bif rtB h l then
  bif fxB (rtN (vw h l) how) then k (i2 (sg false (rtN (vw h l) how)) 0) else k (i2 0 4)
 else none
noncomputable def by4 {α:Type} (how:Int) (B:Int→Option α) (E:Option α):Option α:=bif how==0 then B 0 else bif how==1 then B 1 else bif how==2 then B 2 else bif how==3 then B 3 else E
theorem by4_eq {α:Type} (how:Int) (B:Int→Option α) (E:Option α):by4 how B E=bif wayB how then B how else E:=by
 unfold by4
 cases hw:wayB how
 ·have h0:¬ (0≤how∧how≤3):=fun h=>by rw [show wayB how=true by simp [wayB]; omega] at hw; cases hw
  rw [show (how==0)=false by simp; omega,show (how==1)=false by simp; omega,show (how==2)=false by simp; omega,show (how==3)=false by simp; omega]
  rfl
 ·rcases way_cases hw with rfl | rfl | rfl | rfl<;>rfl
theorem rtBr_eq {α:Type} {s:Int} (how:Int) (h0:0≤s) (h1:s < 85070591730234615865843651857942052864) (k:AOut→Option α):rtBr (hiW s) (loW s) how k=k (i2 (fxV false (rtN s how)) (fxE (rtN s how))):=by
 have hb:rtB (hiW s) (loW s)=true:=by
  unfold rtB
  rw [hi_wB ⟨h0,by omega⟩,lo_wB,vw_hl,decide_eq_true h1]; rfl
 unfold rtBr
 rw [hb,vw_hl]
 unfold fxV fxE
 cases fxB (rtN s how)<;>rfl
set_option maxRecDepth 100000 in
theorem flen_text (N n0:Nat) (α:Type) (x y how:Int) (k:AOut→Option α):evFn real tab ((twT fsL2 spL).env real tab N (n0 + 8)) N Tryz.f98 α [.agg [.int .i64 x,.int .i64 y],.int .i64 how] k =
 bif okB x&&okB y then by4 how (fun how=>rtBr (hiW (sq2 x y)) (loW (sq2 x y)) how k) (k (i2 0 2)) else k (i2 0 2):=by kernel_rfl
theorem sq2_in' {x y:Int} (hx:okB x=true) (hy:okB y=true):0≤sq2 x y∧sq2 x y≤9903520314283042199192993792:=by
 have a:=ab_mul_in hx hx
 have b:=ab_mul_in hy hy
 unfold sq2
 omega
theorem flen_fin (x y how:Int) (hs:∀ c∈([.agg [.int .i64 x,.int .i64 y],.int .i64 how]:List AVal),Sm c):∃ N n,∀ α (k:AOut→Option α),evFn real tab ((twT fsL2 spL).env real tab N n) N Tryz.f98 α [.agg [.int .i64 x,.int .i64 y],.int .i64 how] k=k (i2 (lenV x y how) (lenE x y how)):=by
 refine ⟨64,8,fun α k=>(flen_text 64 0 α x y how k).trans ?_⟩
 rw [by4_eq]
 unfold lenV lenE lenB
 cases hx:okB x
 ·rfl
 ·cases hy:okB y
  ·rfl
  ·cases hw:wayB how
   ·rfl
   ·have s:=sq2_in' hx hy
    rw [rtBr_eq how (by omega) (by omega)]
    rfl
noncomputable def flenS:Fsp:=fun _ args k=>match args with
 | [.agg [.int .i64 x,.int .i64 y],.int .i64 how]=>k (i2 (lenV x y how) (lenE x y how))
 | _=>none
theorem flenS_ok:FspOk Tryz.prog 98 flenS:=tower_S fsL2_ok spL_ok ⟨Tryz.func98,fun _ _=>by kernel_rfl⟩ (by intro α args k; unfold flenS; split<;>rfl) fun args out hSm hEq=>by
 unfold flenS at hEq
 split at hEq
 ·rename_i x y how
  obtain ⟨N,n,e⟩:=flen_fin x y how hSm
  exact ⟨N,n,(e AOut some).trans hEq⟩
 ·cases hEq
def z0 (P:Int):Bool:=hiW P==0&&(loW P==0&&true)
/-! First places, for the functions that are asked. -/
/-! Cells, brakes and bends. -/
noncomputable def fnR0:FuncId→Option Fsp:=fun g=>
 fnL g
theorem fnR0_ok:FsOk fnR0:=
 fnL_ok
noncomputable def fnR1:FuncId→Option Fsp:=fun g=>
 fnR0 g
theorem fnR1_ok:FsOk fnR1:=
 fnR0_ok
/-! The corners of a cell, by the program's own wraps. -/
/-! What it comes to. -/
def mx (a b:Int):Int:=if a < b then b else a
def mn (a b:Int):Int:=if b < a then b else a
/-! The cells that a way touches, in their order. -/
section
variable {τ α:Type}
end
/-! What is done with each cell. -/
/-! Lists, some of whose numbers something is done with. -/
/-! Boxes. -/
section
variable {σ α:Type}
end
def i3 (a b e:Int):AOut:=.ret (.tup [.int .i64 a,.int .i64 b,.int .i64 e])
section
variable {σ τ α β:Type}
def LRes.map (e:σ→τ) (g:α→β):LRes σ α→LRes τ β
 | .cont x=>.cont (e x)
 | .brk id x=>.brk id (e x)
 | .fin a=>.fin (g a)
end
section
variable {σ α:Type}
end
def SimV (u v:AVal):Prop:=∀ (h:List ABlk) (g:Gh) (w:World) (x:Value),Rep h g w u x→Rep h g w v x
theorem SimV.refl (u:AVal):SimV u u:=fun _ _ _ _ r=>r
section
variable {α:Type}
end
/-! Lists of numbers for which something holds. -/
section
variable {α:Type}
end
def rrB (a:List Int):Bool:=isD a&&decide (vl a < 332306998946228968225951765070086144)
def rqBody {α:Type} (a:List Int) (n b m:Int):Option (LRes (Int × Int × Unit) α):=
 bif decide (b > 0) then
  bif decide (0≤m)&&decide (m≤9223372036854775807) then
   bif isD (dg m)&&isD (dg m) then
    bif isD (dg (vl (dg m) * vl (dg m)))&&isD a then
     bif decide (cmp3 (vl (dg (vl (dg m) * vl (dg m)))) (vl a)≤0) then some (LRes.cont (m,IntKind.i64.wrap (b.tdiv 2),()))
     else some (LRes.cont (n,IntKind.i64.wrap (b.tdiv 2),()))
    else none
   else none
  else none
 else some (LRes.brk 0 (n,b,()))
def rqE (L:Nat):Int:=if IntKind.i64.wrap (IntKind.i64.wrap ((IntKind.i64.wrap (15 * (L:Int))).tdiv 2) + 1) < 58 then IntKind.i64.wrap (IntKind.i64.wrap ((IntKind.i64.wrap (15 * (L:Int))).tdiv 2) + 1) else 58
abbrev nbO (n:Int) (b:Bool):AOut:=.ret (.tup [.int .i64 n,.bool b])
def rqEnd {α:Type} (a:List Int) (y:Int) (k:AOut→Option α):Option α:=
 bif decide (0≤y)&&decide (y≤9223372036854775807) then
  bif isD (dg y)&&isD (dg y) then
   bif isD (dg (vl (dg y) * vl (dg y)))&&isD a then k (nbO y (cmp3 (vl (dg (vl (dg y) * vl (dg y)))) (vl a)==0))
   else none
  else none
 else none
set_option maxRecDepth 100000 in
theorem rroot_text (N n0:Nat) (α:Type) (a:List Int) (k:AOut→Option α):evFn real tab ((twY fnR1 spL).env real tab N (n0 + 8)) N Tryz.f194 α [.ro (.int .i64) a] k =
 if rqE a.length < 0 then none else afterL (iterL N (fun x:Int × Int × Unit=>rqBody a x.1 x.2.1 (IntKind.i64.wrap (x.1 + x.2.1))) (0,IntKind.i64.wrap (1 * 2 ^ min (rqE
 a.length).toNat 64),())) fun id y=>if id=0 then rqEnd a y.1 k else none:=by kernel_rfl
def rqN (L:Nat):Nat:=min 58 (15 * L / 2 + 1)
theorem rq_is:∀ L,L < 13→(¬ rqE L < 0)∧IntKind.i64.wrap (1 * 2 ^ min (rqE L).toNat 64)=((2 ^ (rqN L + 1) / 2:Nat):Int)∧(rqN L=58∨32768 ^ L≤2 ^ (rqN L + 1) * 2 ^ (rqN L + 1))∧rqN L≤58:=by decide +kernel
theorem rr_bs {a:List Int} (h:rrB a=true):rtP (vl a) (2 ^ (rqN a.length + 1))=false∧((bs (rtP (vl a)) (rqN a.length + 1) 0:Nat):Int)=rt (vl a)∧bs (rtP (vl a)) (rqN a.length + 1) 0 < 2 ^ 59:=by
 simp only [rrB,Bool.and_eq_true,decide_eq_true_eq] at h
 obtain ⟨hD,hv⟩:=h
 have h0:=(isD_iff.1 hD).2.1
 obtain ⟨_,_,c,d⟩:=rq_is a.length (by have:=isD_len hD; omega)
 have lt:=vl_lt (isD_low hD)
 have np:rtP (vl a) (2 ^ (rqN a.length + 1))=false:=by
  simp only [rtP,decide_eq_false_iff_not]
  rw [← Int.natCast_mul]
  rcases c with c | c
  ·rw [c]
   have:((2 ^ (58 + 1) * 2 ^ (58 + 1):Nat):Int)=332306998946228968225951765070086144:=rfl
   rw [this]; omega
  ·have:((32768 ^ a.length:Nat):Int)=(32768:Int) ^ a.length:=by simp
   omega
 have p0:rtP (vl a) 0=true:=by simp only [rtP,decide_eq_true_eq]; omega
 have np':rtP (vl a) (0 + 2 ^ (rqN a.length + 1))=false:=by rw [Nat.zero_add]; exact np
 have np63:rtP (vl a) (0 + 2 ^ 63)=false:=by
  simp only [rtP,decide_eq_false_iff_not]
  have:((0 + 2 ^ 63:Nat):Int) * ((0 + 2 ^ 63:Nat):Int)=85070591730234615865843651857942052864:=rfl
  rw [this]; omega
 obtain ⟨e1,e2,e3,e4⟩:=bs_spec (rtP (vl a)) (fun m n=>rtP_anti m n) _ 0 p0 np'
 refine ⟨np,?_,?_⟩
 ·rw [rt_bs,bs_eq (rtP (vl a)) (fun m n=>rtP_anti m n) p0 np63 e1 e2]
 ·have:2 ^ (rqN a.length + 1)≤2 ^ 59:=Nat.pow_le_pow_right (by omega) (by omega)
  omega
theorem rq_loop {α:Type} {a:List Int} (h:rrB a=true) (K:Nat→Int × Int × Unit→Option α) {N:Nat} (hN:60 < N) :
  afterL (iterL N (fun x:Int × Int × Unit=>rqBody a x.1 x.2.1 (IntKind.i64.wrap (x.1 + x.2.1))) (0,((2 ^ (rqN a.length + 1) / 2:Nat):Int),())) K=K 0 (rt (vl a),0,()):=by
 obtain ⟨np,eb,_⟩:=rr_bs h
 have h':=h
 simp only [rrB,Bool.and_eq_true,decide_eq_true_eq] at h'
 obtain ⟨hD,hv⟩:=h'
 have h0:=(isD_iff.1 hD).2.1
 obtain ⟨_,_,_,d⟩:=rq_is a.length (by have:=isD_len hD; omega)
 have hle:2 ^ (rqN a.length + 1)≤2 ^ 59:=Nat.pow_le_pow_right (by omega) (by omega)
 have e:=bit_searchK (f:=fun x:Int × Int × Unit=>rqBody (α:=α) a x.1 x.2.1 (IntKind.i64.wrap (x.1 + x.2.1))) 0 (rtP (vl a)) (rqN a.length + 1) (fun n k a1 a2 a3=>?_) (fun n=>rfl) (rqN a.length + 1) 0 (Nat.zero_mod _) (by omega) (by simp only [rtP,decide_eq_true_eq]; omega) N (by omega)
 ·have e':iterL N (fun x:Int × Int × Unit=>rqBody (α:=α) a x.1 x.2.1 (IntKind.i64.wrap (x.1 + x.2.1))) (0,((2 ^ (rqN a.length + 1) / 2:Nat):Int),())=some (.brk 0 (((bs (rtP (vl a)) (rqN a.length + 1) 0:Nat):Int),0,())):=e
  rw [e',eb]
  rfl
 ·have p59:(2:Nat) ^ 59=576460752303423488:=rfl
  have hk:2 ^ (k + 1)=2 ^ k + 2 ^ k:=by rw [Nat.pow_succ]; omega
  have hpos:0 < 2 ^ k:=Nat.two_pow_pos k
  have hw:IntKind.i64.wrap ((n:Int) + ((2 ^ k:Nat):Int))=((n + 2 ^ k:Nat):Int):=by rw [i64_in _ (by omega)]; omega
  have hsh:IntKind.i64.wrap ((((2 ^ k:Nat):Int)).tdiv 2)=((2 ^ k / 2:Nat):Int):=by
   rw [Int.tdiv_eq_ediv_of_nonneg (by omega),i64_in _ (by omega)]; omega
  have hm:(0:Int)≤((n + 2 ^ k:Nat):Int)∧((n + 2 ^ k:Nat):Int)≤576460752303423488:=by omega
  have hp:rtP (vl a) (n + 2 ^ k)=decide (((n + 2 ^ k:Nat):Int) * ((n + 2 ^ k:Nat):Int)≤vl a):=rfl
  have m2:=i7_D.sq_in' hm.1 hm.2
  have hpos2:((2 ^ k:Nat):Int) > 0:=by omega
  show rqBody a (n:Int) ((2 ^ k:Nat):Int) (IntKind.i64.wrap ((n:Int) + ((2 ^ k:Nat):Int)))=_
  unfold rqBody
  rw [decide_eq_true hpos2,hw,hsh,hp]
  generalize hme:((n + 2 ^ k:Nat):Int)=m at *
  rw [decide_eq_true hm.1,decide_eq_true (show m≤9223372036854775807 by omega),isD_dg (n:=m) ⟨hm.1,by omega⟩,vl_dg _ hm.1,isD_dg (n:=m * m) ⟨m2.1,by omega⟩,vl_dg _ m2.1,hD]
  simp only [Bool.and_self,cond_true]
  by_cases hq:m * m≤vl a
  ·rw [decide_eq_true (cmp3_le0.2 hq),decide_eq_true hq]
   simp only [cond_true]
   rw [← hme]
  ·rw [decide_eq_false (fun c=>hq (cmp3_le0.1 c)),decide_eq_false hq]
   rfl
theorem rt_in {a:List Int} (h:rrB a=true):0≤rt (vl a)∧rt (vl a) < 576460752303423488:=by
 obtain ⟨_,eb,lt⟩:=rr_bs h
 have p59:(2:Nat) ^ 59=576460752303423488:=rfl
 omega
theorem cmp3_eq0 (a b:Int):(cmp3 a b==0)=(a==b):=by
 unfold cmp3
 rw [Bool.eq_iff_iff]
 simp only [beq_iff_eq]
 split<;>(try split)<;>omega
theorem rroot_fin (a:List Int) (hs:∀ qSm∈([.ro (.int .i64) a]:List AVal),Sm qSm) (hCo:(rrB a)=true):∃ N n,∀ α (k:AOut→Option α),evFn real tab ((twY fnR1 spL).env real tab N n) N Tryz.f194 α [.ro (.int .i64) a] k=k (nbO (rt (vl a)) (rt (vl a) * rt (vl a)==vl a)):=by
 refine ⟨61,8,fun α k=>(rroot_text 61 0 α a k).trans ?_⟩
 have hCo':=hCo
 simp only [rrB,Bool.and_eq_true,decide_eq_true_eq] at hCo'
 obtain ⟨hD,hv⟩:=hCo'
 obtain ⟨c1,c2,_⟩:=rq_is a.length (by have:=isD_len hD; omega)
 obtain ⟨r0,r1⟩:=rt_in hCo
 have m2:=i7_D.sq_in' r0 (show rt (vl a)≤576460752303423488 by omega)
 rw [if_neg c1,c2,rq_loop hCo _ (by omega),if_pos rfl]
 unfold rqEnd
 rw [decide_eq_true r0,decide_eq_true (show rt (vl a)≤9223372036854775807 by omega),isD_dg (n:=rt (vl a)) ⟨r0,by omega⟩,vl_dg _ r0,isD_dg (n:=rt (vl a) * rt (vl a)) ⟨m2.1,by omega⟩,vl_dg _ m2.1,hD,cmp3_eq0]
 rfl
noncomputable def rrootS:Fsp:=fun _ args k=>match args with
 | [.ro (.int .i64) a]=>bif rrB a then (k (nbO (rt (vl a)) (rt (vl a) * rt (vl a)==vl a))) else none
 | _=>none
theorem rrootS_ok:FspOk Tryz.prog 194 rrootS:=tower_Y fnR1_ok spL_ok ⟨Tryz.func194,fun _ _=>by kernel_rfl⟩ (by intro α args k; unfold rrootS; split<;>simp only [cond_bind,Option.bind_some,Option.bind_none]) fun args out hSm hEq=>by
 unfold rrootS at hEq
 split at hEq
 ·rename_i a
  cases hc:rrB a
  ·rw [hc] at hEq; cases hEq
  ·rw [hc] at hEq
   obtain ⟨N,n,e⟩:=rroot_fin a hSm hc
   exact ⟨N,n,(e AOut some).trans hEq⟩
 ·cases hEq
noncomputable def fnR2:FuncId→Option Fsp:=fun g=>
 if g=194 then some rrootS else
 fnR1 g
theorem fnR2_ok:FsOk fnR2:=
 fs_cons rrootS_ok <|
 fnR1_ok
def roT {α:Type} (a:List Int) (n v:Int) (k:AOut→Option α):Option α:=
 bif decide (0≤IntKind.i64.wrap (IntKind.i64.wrap (2 * n) + 1))&&decide (IntKind.i64.wrap (IntKind.i64.wrap (2 * n) + 1)≤9223372036854775807) then
  bif isD a&&isD (dg (IntKind.i64.wrap (1 * 2 ^ min (Int.toNat 2) 64))) then
   bif isD (dg (IntKind.i64.wrap (IntKind.i64.wrap (2 * n) + 1)))&&isD (dg (IntKind.i64.wrap (IntKind.i64.wrap (2 * n) + 1))) then
    bif isD (dg (v * vl (dg (IntKind.i64.wrap (1 * 2 ^ min (Int.toNat 2) 64)))))&&isD (dg (vl (dg (IntKind.i64.wrap (IntKind.i64.wrap (2 * n) + 1))) * vl (dg (IntKind.i64.wrap (IntKind.i64.wrap (2 * n) + 1))))) then
     bif decide (cmp3 (vl (dg (v * vl (dg (IntKind.i64.wrap (1 * 2 ^ min (Int.toNat 2) 64)))))) (vl (dg (vl (dg (IntKind.i64.wrap (IntKind.i64.wrap (2 * n) + 1))) * vl (dg (IntKind.i64.wrap (IntKind.i64.wrap (2 * n) + 1)))))) ≥ 0) then k (nbO (IntKind.i64.wrap (n + 1)) true)
     else k (nbO n true)
    else none
   else none
  else none
 else none
set_option maxRecDepth 100000 in
theorem rrooted_text (N n0:Nat) (α:Type) (a:List Int) (how:Int) (k:AOut→Option α):evFn real tab ((twY fnR2 spL).env real tab N (n0 + 8)) N Tryz.f152 α [.ro (.int .i64) a,.int .i64 how] k =
 bif rrB a then bif how==2 then bif how==3 then roT a (rt (vl a)) (vl a) k else bif !(rt (vl a) * rt (vl a)==vl a) then k (nbO (IntKind.i64.wrap (rt (vl a) + 1)) true) else k
 (nbO (rt (vl a)) true) else bif how==3 then roT a (rt (vl a)) (vl a) k else k (nbO (rt (vl a)) true) else none:=by kernel_rfl
theorem roT_fin {α:Type} {a:List Int} {n v:Int} (ha:isD a=true) (hn:0≤n∧n < 576460752303423488) (hv:0≤v∧v < 332306998946228968225951765070086144) (k:AOut→Option α):roT a n v k=k (nbO (n + (bif decide ((2 * n + 1) * (2 * n + 1)≤4 * v) then 1 else 0)) true):=by
 have two:IntKind.i64.wrap (1 * 2 ^ min (Int.toNat 2) 64)=4:=by decide
 have m2:=i7_D.sq_in' (x:=2 * n + 1) (B:=1152921504606846976) (by omega) (by omega)
 unfold roT
 rw [i64_in (2 * n) (by omega),i64_in (2 * n + 1) (by omega),i64_in (n + 1) (by omega),two,decide_eq_true (show 0≤2 * n + 1 by omega),decide_eq_true (show 2 * n + 1≤9223372036854775807 by omega),ha,isD_dg (n:=4) ⟨by omega,by omega⟩,isD_dg (n:=2 * n + 1) ⟨by omega,by omega⟩,vl_dg 4 (by omega),vl_dg (2 * n + 1) (by omega),isD_dg (n:=v * 4) ⟨by omega,by omega⟩,isD_dg (n:=(2 * n + 1) * (2 * n + 1)) ⟨m2.1,by omega⟩,vl_dg (v * 4) (by omega),vl_dg _ m2.1]
 simp only [Bool.and_self,cond_true]
 by_cases h:(2 * n + 1) * (2 * n + 1)≤4 * v
 ·rw [decide_eq_true h,decide_eq_true (cmp3_ge.2 (show (2 * n + 1) * (2 * n + 1)≤v * 4 by omega))]
  rfl
 ·rw [decide_eq_false h,decide_eq_false (fun c=>h (by have:=cmp3_ge.1 c; omega)),cond_false,cond_false,Int.add_zero]
theorem rrooted_fin (a:List Int) (how:Int) (hs:∀ qSm∈([.ro (.int .i64) a,.int .i64 how]:List AVal),Sm qSm) (hCo:(rrB a)=true):∃ N n,∀ α (k:AOut→Option α),evFn real tab ((twY fnR2 spL).env real tab N n) N Tryz.f152 α [.ro (.int .i64) a,.int .i64 how] k=k (nbO (rtN (vl a) how) true):=by
 refine ⟨8,8,fun α k=>(rrooted_text 8 0 α a how k).trans ?_⟩
 obtain ⟨r0,r1⟩:=rt_in hCo
 have hCo':=hCo
 simp only [rrB,Bool.and_eq_true,decide_eq_true_eq] at hCo'
 have h0:=(isD_iff.1 hCo'.1).2.1
 rw [hCo,cond_true,roT_fin hCo'.1 ⟨r0,r1⟩ ⟨h0,hCo'.2⟩ k,i64_in (rt (vl a) + 1) (by omega)]
 unfold rtN rtUp
 by_cases h2:how=2
 ·subst h2
  cases rt (vl a) * rt (vl a)==vl a
  ·rfl
  ·show k _=k _
   simp
 ·rw [beq_eq_false_iff_ne.2 h2,if_neg h2,cond_false]
  by_cases h3:how=3
  ·subst h3
   rfl
  ·rw [beq_eq_false_iff_ne.2 h3,if_neg h3,cond_false,cond_false,Int.add_zero]
noncomputable def rrootedS:Fsp:=fun _ args k=>match args with
 | [.ro (.int .i64) a,.int .i64 how]=>bif rrB a then (k (nbO (rtN (vl a) how) true)) else none
 | _=>none
theorem rrootedS_ok:FspOk Tryz.prog 152 rrootedS:=tower_Y fnR2_ok spL_ok ⟨Tryz.func152,fun _ _=>by kernel_rfl⟩ (by intro α args k; unfold rrootedS; split<;>simp only [cond_bind,Option.bind_some,Option.bind_none]) fun args out hSm hEq=>by
 unfold rrootedS at hEq
 split at hEq
 ·rename_i a how
  cases hc:rrB a
  ·rw [hc] at hEq; cases hEq
  ·rw [hc] at hEq
   obtain ⟨N,n,e⟩:=rrooted_fin a how hSm hc
   exact ⟨N,n,(e AOut some).trans hEq⟩
 ·cases hEq
noncomputable def fnR3:FuncId→Option Fsp:=fun g=>
 if g=152 then some rrootedS else
 fnR2 g
theorem fnR3_ok:FsOk fnR3:=
 fs_cons rrootedS_ok <|
 fnR2_ok
theorem ft_fx {n:Int} (h:0≤n):ftV n true=fxV false n∧ftE n true=fxE n:=by
 have:okB n=fxB n:=by
  rw [Bool.eq_iff_iff,ok_iff]; simp only [fxB,decide_eq_true_eq]; omega
 unfold ftV ftE fxV fxE
 rw [this]
 exact ⟨rfl,rfl⟩
theorem rt_nn (s:Int):0≤rt s:=by rw [rt_C]; exact Int.natCast_nonneg _
theorem rtN_nn (s how:Int):0≤rtN s how:=by
 have:=rt_nn s
 unfold rtN
 cases rtUp s how<;>simp only [cond_true,cond_false]<;>omega
set_option maxRecDepth 100000 in
theorem rlen_text (N n0:Nat) (α:Type) (x y how:Int) (k:AOut→Option α):evFn real tab ((twY fnR3 spL).env real tab N (n0 + 8)) N Tryz.f113 α [.agg [.int .i64 x,.int .i64 y],.int .i64 how] k =
 bif okB x then bif !okB y then k (AOut.ret (AVal.tup [AVal.int IntKind.i64 0,AVal.int IntKind.i64 2])) else bif !wayB how then k (AOut.ret (AVal.tup [AVal.int IntKind.i64 0,
 AVal.int IntKind.i64 2])) else bif i7 x&&i7 y then bif rrB (dg (sq2 x y)) then k (AOut.ret (AVal.tup [AVal.int IntKind.i64 (ftV (rtN (vl (dg (sq2 x y))) how) true),AVal.int
 IntKind.i64 (ftE (rtN (vl (dg (sq2 x y))) how) true)])) else none else none else k (AOut.ret (AVal.tup [AVal.int IntKind.i64 0,AVal.int IntKind.i64 2])):=by kernel_rfl
theorem rlen_fin (x y how:Int) (hs:∀ qSm∈([.agg [.int .i64 x,.int .i64 y],.int .i64 how]:List AVal),Sm qSm):∃ N n,∀ α (k:AOut→Option α),evFn real tab ((twY fnR3 spL).env real tab N n) N Tryz.f113 α [.agg [.int .i64 x,.int .i64 y],.int .i64 how] k=k (i2 (lenV x y how) (lenE x y how)):=by
 refine ⟨8,8,fun α k=>(rlen_text 8 0 α x y how k).trans ?_⟩
 unfold lenV lenE lenB
 cases hx:okB x
 ·cases okB y<;>cases wayB how<;>rfl
 cases hy:okB y
 ·cases wayB how<;>rfl
 cases hw:wayB how
 ·rfl
 have x7:=i7_ok hx; have y7:=i7_ok hy
 rw [ok_iff] at hx hy
 have ax:0≤ab x∧ab x≤70368744177664:=by unfold ab; split<;>omega
 have ay:0≤ab y∧ab y≤70368744177664:=by unfold ab; split<;>omega
 have m1:=mul_in ax ax
 have m2:=mul_in ay ay
 have hs:0≤sq2 x y∧sq2 x y < 332306998946228968225951765070086144:=by unfold sq2; omega
 have d:isD (dg (sq2 x y))=true:=isD_dg ⟨hs.1,by omega⟩
 have b:rrB (dg (sq2 x y))=true:=by
  unfold rrB
  rw [d,vl_dg _ hs.1,decide_eq_true hs.2]; rfl
 obtain ⟨f1,f2⟩:=ft_fx (rtN_nn (sq2 x y) how)
 rw [x7,y7,b,vl_dg _ hs.1,f1,f2]
 rfl
noncomputable def rlenS:Fsp:=fun _ args k=>match args with
 | [.agg [.int .i64 x,.int .i64 y],.int .i64 how]=>k (i2 (lenV x y how) (lenE x y how))
 | _=>none
theorem rlenS_ok:FspOk Tryz.prog 113 rlenS:=tower_Y fnR3_ok spL_ok ⟨Tryz.func113,fun _ _=>by kernel_rfl⟩ (by intro α args k; unfold rlenS; split<;>rfl) fun args out hSm hEq=>by
 unfold rlenS at hEq
 split at hEq
 ·rename_i x y how
  obtain ⟨N,n,e⟩:=rlen_fin x y how hSm
  exact ⟨N,n,(e AOut some).trans hEq⟩
 ·cases hEq
def prC:List Int:=(List.replicate (Int.toNat 17) 0).set (Int.toNat 9) 1
theorem kpa_text (N n0:Nat) (α:Type) (k:AOut→Option α):evFn real tab ((twP fsK7 spK).env real tab N (n0 + 30)) N Tryz.f17 α [] k=k (.ret (.agg [.int .i64 1,.ro LsSh [prC],.ro LsSh [prC]])):=by kernel_rfl
noncomputable def kpaS:Fsp:=fun _ args k=>match args with
 | []=>k (.ret (.agg [.int .i64 1,.ro LsSh [prC],.ro LsSh [prC]]))
 | _=>none
theorem kpaS_ok:FspOk Tryz.prog 17 kpaS:=tower_P fsK7_ok spK_ok ⟨Tryz.func17,fun _ _=>by kernel_rfl⟩ (by intro α args k; unfold kpaS; split<;>rfl) fun args out hSm hEq=>by
 unfold kpaS at hEq
 split at hEq
 ·exact ⟨20,30,(kpa_text 20 0 AOut some).trans hEq⟩
 ·cases hEq
noncomputable def fsK8:FuncId→Option Fsp:=fun g=>
 if g=17 then some kpaS else
 fsK7 g
theorem fsK8_ok:FsOk fsK8:=
 fs_cons kpaS_ok <|
 fsK7_ok
set_option maxRecDepth 100000 in
theorem kal_text (N n0:Nat) (α:Type) (k:AOut→Option α):evFn real tab ((twY fsK8 spK).env real tab N (n0 + 30)) N Tryz.f14 α [] k=k (b1 true):=by kernel_rfl
noncomputable def kalS:Fsp:=fun _ args k=>match args with
 | []=>k (b1 true)
 | _=>none
theorem kalS_ok:FspOk Tryz.prog 14 kalS:=tower_Y fsK8_ok spK_ok ⟨Tryz.func14,fun _ _=>by kernel_rfl⟩ (by intro α args k; unfold kalS; split<;>rfl) fun args out hSm hEq=>by
 unfold kalS at hEq
 split at hEq
 ·exact ⟨20,30,(kal_text 20 0 AOut some).trans hEq⟩
 ·cases hEq
/-! Great -/
def grI {α:Type} (A B:List (List Int)) (t:Int) (R:Option α) (x:Int × Unit):Option (LRes (Int × Unit) α):=
 sel2 A B t fun L=>bif decide (x.1 < (L.length:Int)) then sel2 A B t fun L=>if 0≤x.1∧x.1 < (L.length:Int) then bif decide (((L.getD x.1.toNat []).length:Int) > 60) then finL R else some (.cont (IntKind.i64.wrap (x.1 + 1),())) else none else some (.brk 2 (x.1,()))
def grR {α:Type} (N:Nat) (A B:List (List Int)) (t:Int) (R E:Option α):Option α:=
 sel2 A B t fun L=>bif decide ((L.length:Int) > 9) then R else afterL (iterL N (grI A B t R) (0,())) fun id _=>if id=2 then E else none
def grF {α:Type} (N:Nat) (A B:List (List Int)) (R:Option α) (x:Int × Unit):Option (LRes (Int × Unit) α):=
 bif decide (x.1 < 2) then sel2 A B x.1 fun L=>bif decide ((L.length:Int) > 3) then sel2 A B x.1 fun L=>bif decide ((L.length:Int)≤8) then finL R else grR N A B x.1 (finL R) (some (.cont (IntKind.i64.wrap (x.1 + 1),()))) else grR N A B x.1 (finL R) (some (.cont (IntKind.i64.wrap (x.1 + 1),())))
 else some (.brk 0 (x.1,()))
set_option maxRecDepth 100000 in
theorem grt_text (N n0:Nat) (α:Type) (d:Int) (A B:List (List Int)) (k:AOut→Option α):evFn real tab ((twY fsK8 spK).env real tab N (n0 + 30)) N Tryz.f7 α [.agg [.int .i64 d,.ro LsSh A,.ro LsSh B]] k=afterL (iterL N (grF N A B (k (b1 true))) (0,())) fun id _=>if id=0 then k (b1 false) else none:=by kernel_rfl
def gr1 (L:List (List Int)):Bool:=(decide (3 < L.length)&&decide (L.length≤8)) || (decide (9 < L.length) || L.any fun c=>decide (60 < c.length))
def grB (A B:List (List Int)):Bool:=gr1 A || gr1 B
theorem grR_eq {α:Type} {N:Nat} (hN:12 < N) (A B:List (List Int)) (i:Nat) (hi:i < 2) (R E:Option α):grR N A B (i:Int) R E=bif decide (9 < ([A,B].getD i A).length) || ([A,B].getD i A).any (fun c=>decide (60 < c.length)) then R else E:=by
 unfold grR
 rw [sel2_eq A B i hi]
 generalize hL:[A,B].getD i A=L
 by_cases h9:9 < L.length
 ·rw [decide_eq_true (show (L.length:Int) > 9 by omega),decide_eq_true h9]; rfl
 rw [decide_eq_false (show ¬ (L.length:Int) > 9 by omega),decide_eq_false h9,cond_false,Bool.false_or]
 have hmx:L.length≤maxLen:=by have:maxLen=9223372036854775807:=rfl; omega
 refine (any_loop' (f:=grI A B (i:Int) R) (fun j:Nat=>((j:Int),())) L.length (fun j=>decide (60 < (L.getD j []).length)) R (fun j hj=>?_) (y:=((L.length:Int),())) (b:=2) ?_ (by omega)).trans ?_
 ·unfold grI
  rw [sel2_eq A B i hi,sel2_eq A B i hi,hL]
  simp only [lt_len hj,cond_true,in_len hj,if_pos,and_self,decide_true,Int.toNat_natCast,wrap_next hj hmx]
  rw [show decide (((L.getD j []).length:Int) > 60)=decide (60 < (L.getD j []).length) from decide_eq_decide.2 (by omega)]
 ·unfold grI
  rw [sel2_eq A B i hi,hL]
  simp only [not_lt_len,cond_false]
 ·rw [if_pos rfl,any_rangeX L [] fun c=>decide (60 < c.length)]
theorem gr_plain {α:Type} {N:Nat} (hN:12 < N) (A B:List (List Int)) (k:AOut→Option α):(afterL (iterL N (grF N A B (k (b1 true))) (0,())) fun id _=>if id=0 then k (b1 false) else none)=k (b1 (grB A B)):=by
 refine (any_loop' (f:=grF N A B (k (b1 true))) (fun i:Nat=>((i:Int),())) 2 (fun i=>gr1 ([A,B].getD i A)) (k (b1 true)) (fun i hi=>?_) (y:=(2,())) (b:=0) ?_ (by omega)).trans ?_
 ·unfold grF
  simp only []
  rw [decide_eq_true (show (i:Int) < 2 by omega),cond_true,sel2_eq A B i hi,sel2_eq A B i hi,grR_eq hN A B i hi,wrap_next (show i < 2 by omega) (by decide)]
  unfold gr1
  generalize [A,B].getD i A=L
  rw [show decide ((L.length:Int) > 3)=decide (3 < L.length) from decide_eq_decide.2 (by omega),show decide ((L.length:Int)≤8)=decide (L.length≤8) from decide_eq_decide.2 (by omega)]
  cases decide (3 < L.length)
  ·cases decide (9 < L.length) || L.any fun c=>decide (60 < c.length)<;>rfl
  cases decide (L.length≤8)
  ·cases decide (9 < L.length) || L.any fun c=>decide (60 < c.length)<;>rfl
  ·rfl
 ·rfl
 ·rw [if_pos rfl]
  show (bif (gr1 A || (gr1 B || false)) then _ else _)=_
  unfold grB
  cases gr1 A
  ·cases gr1 B<;>rfl
  ·rfl
noncomputable def grtS:Fsp:=fun _ args k=>match args with
 | [.agg [.int .i64 _,.ro (.sl (.int .i64)) A,.ro (.sl (.int .i64)) B]]=>k (b1 (grB A B))
 | _=>none
theorem grtS_ok:FspOk Tryz.prog 7 grtS:=tower_Y fsK8_ok spK_ok ⟨Tryz.func7,fun _ _=>by kernel_rfl⟩ (by intro α args k; unfold grtS; split<;>rfl) fun args out hSm hEq=>by
 unfold grtS at hEq
 split at hEq
 ·rename_i d A B
  exact ⟨20,30,((grt_text 20 0 AOut d A B some).trans (gr_plain (by decide) A B some)).trans hEq⟩
 ·cases hEq
noncomputable def fsK9:FuncId→Option Fsp:=fun g=>
 if g=14 then some kalS else
 if g=7 then some grtS else
 fsK8 g
theorem fsK9_ok:FsOk fsK9:=
 fs_cons kalS_ok <|
 fs_cons grtS_ok <|
 fsK8_ok
end Go.Proofs.YtbkpklfjoifdbaaGreat
