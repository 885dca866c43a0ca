/- Parts of the proof, in build order. -/
import Derived.Test.YtpigibmlkgjdkaaGreatM9
import Derived.Test.YtpigibmlkgjdkaaGreatM10
import Derived.Test.YtpigibmlkgjdkaaGreatM11
import Derived.Test.YtpigibmlkgjdkaaGreatM8
namespace Go.Proofs.YtpigibmlkgjdkaaGreat
open Go.RowKit
def rrestS:Fsp:=fun _ args k=>match args with
 | [.agg [.int .i64 _,.int .i64 _,.int .i64 u,.int .i64 v,.int .i64 _]]=>k (b1 (u==0&&v==0))
 | _=>none
theorem rrest_text (N n0:Nat) (α:Type) (x y u v s:Int) (k:AOut→Option α):evFn real tab ((twY fnRd spL).env real tab N (n0 + 8)) N Tryz.f14 α [.agg [.int .i64 x,.int .i64 y,.int .i64 u,.int .i64 v,.int .i64 s]] k =
 bif u==0 then k (b1 (v==0)) else k (b1 false):=by kernel_rfl
theorem rrestS_ok:FspOk Tryz.prog 14 rrestS:=tower_Y fnRd_ok spL_ok ⟨Tryz.func14,fun _ _=>by kernel_rfl⟩ (by intro α args k; unfold rrestS; split<;>rfl) fun args out hs h=>by
 unfold rrestS at h
 split at h
 ·rename_i x y u v s
  refine ⟨1,8,(rrest_text 1 0 AOut x y u v s some).trans (Eq.trans ?_ h)⟩
  cases (u==0)<;>rfl
 ·cases h
noncomputable def fnC0:FuncId→Option Fsp:=fun g=>
 if g=32 then some rbodyS else
 if g=54 then some rtouchS else
 if g=14 then some rrestS else
 fnRd g
theorem fnC0_ok:FsOk fnC0:=
 fs_cons rbodyS_ok <|
 fs_cons rtouchS_ok <|
 fs_cons rrestS_ok <|
 fnRd_ok
/-! Lists that are the same. -/
def bdEq (a b:BdI):Bool:=a.1==b.1&&(a.2.1==b.2.1&&(((a.x==b.x&&(a.y==b.y&&true))&&((a.u==b.u&&(a.v==b.v&&true))&&(a.s==b.s&&true)))&&(a.o==b.o&&true)))
theorem bdEq_refl (a:BdI):bdEq a a=true:=by simp [bdEq]
set_option maxRecDepth 100000 in
theorem rsame5x_text (N n0:Nat) (α:Type) (l l':List BdI) (k:AOut→Option α):evFn real tab ((twY fnC0 spL).env real tab N (n0 + 8)) N Tryz.f11 α [.ro (.recd (.cons (.int .i64) (.cons (.int .i64) (.cons (.recd (.cons (.recd (.cons (.int .i64) (.cons (.int .i64) .nil))) (.cons (.recd (.cons (.int .i64) (.cons (.int .i64) .nil))) (.cons (.int .i64) .nil)))) (.cons .bool .nil))))) l,.ro (.recd (.cons (.int .i64) (.cons (.int .i64) (.cons (.recd (.cons (.recd (.cons (.int .i64) (.cons (.int .i64) .nil))) (.cons (.recd (.cons (.int .i64) (.cons (.int .i64) .nil))) (.cons (.int .i64) .nil)))) (.cons .bool .nil))))) l'] k =
 bif (l.length:Int) != (l'.length:Int) then k (b1 false) else afterL (iterL N (saF bdEq bdD l l' (k (b1 false))) (0,())) fun id _=>if id=0 then k (b1 true) else none:=by
 kernel_rfl
theorem rsame5x_fin (l l':List BdI) (hs:∀ qSm∈([.ro (.recd (.cons (.int .i64) (.cons (.int .i64) (.cons (.recd (.cons (.recd (.cons (.int .i64) (.cons (.int .i64) .nil))) (.cons (.recd (.cons (.int .i64) (.cons (.int .i64) .nil))) (.cons (.int .i64) .nil)))) (.cons .bool .nil))))) l,.ro (.recd (.cons (.int .i64) (.cons (.int .i64) (.cons (.recd (.cons (.recd (.cons (.int .i64) (.cons (.int .i64) .nil))) (.cons (.recd (.cons (.int .i64) (.cons (.int .i64) .nil))) (.cons (.int .i64) .nil)))) (.cons .bool .nil))))) l']:List AVal),Sm qSm):∃ N n,∀ α (k:AOut→Option α),evFn real tab ((twY fnC0 spL).env real tab N n) N Tryz.f11 α [.ro (.recd (.cons (.int .i64) (.cons (.int .i64) (.cons (.recd (.cons (.recd (.cons (.int .i64) (.cons (.int .i64) .nil))) (.cons (.recd (.cons (.int .i64) (.cons (.int .i64) .nil))) (.cons (.int .i64) .nil)))) (.cons .bool .nil))))) l,.ro (.recd (.cons (.int .i64) (.cons (.int .i64) (.cons (.recd (.cons (.recd (.cons (.int .i64) (.cons (.int .i64) .nil))) (.cons (.recd (.cons (.int .i64) (.cons (.int .i64) .nil))) (.cons (.int .i64) .nil)))) (.cons .bool .nil))))) l'] k=k (b1 (sameX bdEq bdD l l')):=by
 exact ⟨l.length + 1,8,fun α k=>(rsame5x_text _ 0 α l l' k).trans (sa_loop bdEq bdD l l' (hs (.ro (.recd (.cons (.int .i64) (.cons (.int .i64) (.cons (.recd (.cons (.recd (.cons (.int .i64) (.cons (.int .i64) .nil))) (.cons (.recd (.cons (.int .i64) (.cons (.int .i64) .nil))) (.cons (.int .i64) .nil)))) (.cons .bool .nil))))) l) (List.mem_cons_self ..)).len fun b=>k (b1 b))⟩
noncomputable def rsame5xS:Fsp:=fun _ args k=>match args with
 | [.ro (.recd (.cons (.int .i64) (.cons (.int .i64) (.cons (.recd (.cons (.recd (.cons (.int .i64) (.cons (.int .i64) .nil))) (.cons (.recd (.cons (.int .i64) (.cons (.int .i64) .nil))) (.cons (.int .i64) .nil)))) (.cons .bool .nil))))) l,.ro (.recd (.cons (.int .i64) (.cons (.int .i64) (.cons (.recd (.cons (.recd (.cons (.int .i64) (.cons (.int .i64) .nil))) (.cons (.recd (.cons (.int .i64) (.cons (.int .i64) .nil))) (.cons (.int .i64) .nil)))) (.cons .bool .nil))))) l']=>k (b1 (sameX bdEq bdD l l'))
 | _=>none
theorem rsame5xS_ok:FspOk Tryz.prog 11 rsame5xS:=tower_Y fnC0_ok spL_ok ⟨Tryz.func11,fun _ _=>by kernel_rfl⟩ (by intro α args k; unfold rsame5xS; split<;>rfl) fun args out hSm hEq=>by
 unfold rsame5xS at hEq
 split at hEq
 ·rename_i l l'
  obtain ⟨N,n,e⟩:=rsame5x_fin l l' hSm
  exact ⟨N,n,(e AOut some).trans hEq⟩
 ·cases hEq
/-! still -/
def rsl {α:Type} (l:List BdI) (R:Option α) (x:Int × Unit):Option (LRes (Int × Unit) α):=
 bif decide (x.1 < (l.length:Int)) then
  if 0≤x.1∧x.1 < (l.length:Int) then
   if 0≤x.1∧x.1 < (l.length:Int) then
    bif !(l.getD x.1.toNat bdD).o then
     bif !((l.getD x.1.toNat bdD).u==0&&(l.getD x.1.toNat bdD).v==0) then finL R
     else some (.cont (IntKind.i64.wrap (x.1 + 1),()))
    else some (.cont (IntKind.i64.wrap (x.1 + 1),()))
   else none
  else none
 else some (.brk 0 (x.1,()))
set_option maxRecDepth 100000 in
theorem rstillx_text (N n0:Nat) (α:Type) (l:List BdI) (k:AOut→Option α):evFn real tab ((twY fnC0 spL).env real tab N (n0 + 8)) N Tryz.f30 α [.ro (.recd (.cons (.int .i64) (.cons (.int .i64) (.cons (.recd (.cons (.recd (.cons (.int .i64) (.cons (.int .i64) .nil))) (.cons (.recd (.cons (.int .i64) (.cons (.int .i64) .nil))) (.cons (.int .i64) .nil)))) (.cons .bool .nil))))) l] k =
 afterL (iterL N (rsl l (k (b1 false))) (0,())) fun id _=>if id=0 then k (b1 true) else none:=by kernel_rfl
theorem rstillx_fin (l:List BdI) (hs:∀ qSm∈([.ro (.recd (.cons (.int .i64) (.cons (.int .i64) (.cons (.recd (.cons (.recd (.cons (.int .i64) (.cons (.int .i64) .nil))) (.cons (.recd (.cons (.int .i64) (.cons (.int .i64) .nil))) (.cons (.int .i64) .nil)))) (.cons .bool .nil))))) l]:List AVal),Sm qSm):∃ N n,∀ α (k:AOut→Option α),evFn real tab ((twY fnC0 spL).env real tab N n) N Tryz.f30 α [.ro (.recd (.cons (.int .i64) (.cons (.int .i64) (.cons (.recd (.cons (.recd (.cons (.int .i64) (.cons (.int .i64) .nil))) (.cons (.recd (.cons (.int .i64) (.cons (.int .i64) .nil))) (.cons (.int .i64) .nil)))) (.cons .bool .nil))))) l] k=k (b1 (!(l.any mvg))):=by
 have hl:l.length≤maxLen:=(hs (.ro (.recd (.cons (.int .i64) (.cons (.int .i64) (.cons (.recd (.cons (.recd (.cons (.int .i64) (.cons (.int .i64) .nil))) (.cons (.recd (.cons (.int .i64) (.cons (.int .i64) .nil))) (.cons (.int .i64) .nil)))) (.cons .bool .nil))))) l) (List.mem_cons_self ..)).len
 refine ⟨l.length + 1,8,fun α k=>(rstillx_text _ 0 α l k).trans ?_⟩
 refine (any_loop (f:=rsl l (k (b1 false))) (fun i:Nat=>((i:Int),())) l.length (fun i=>mvg (l.getD i bdD)) (k (b1 false)) (fun i hi=>?_) (y:=((l.length:Int),())) (b:=0) ?_).trans ?_
 ·unfold rsl
  simp only [lt_len hi,cond_true,in_len hi,if_pos,and_self,decide_true,Int.toNat_natCast,wrap_next hi hl,mvg,Bool.and_true]
  cases (l.getD i bdD).o<;>cases ((l.getD i bdD).u==0&&(l.getD i bdD).v==0)<;>rfl
 ·unfold rsl
  simp only [not_lt_len,cond_false]
 ·rw [any_rangeX]
  cases l.any mvg<;>rfl
noncomputable def rstillxS:Fsp:=fun _ args k=>match args with
 | [.ro (.recd (.cons (.int .i64) (.cons (.int .i64) (.cons (.recd (.cons (.recd (.cons (.int .i64) (.cons (.int .i64) .nil))) (.cons (.recd (.cons (.int .i64) (.cons (.int .i64) .nil))) (.cons (.int .i64) .nil)))) (.cons .bool .nil))))) l]=>k (b1 (!(l.any mvg)))
 | _=>none
theorem rstillxS_ok:FspOk Tryz.prog 30 rstillxS:=tower_Y fnC0_ok spL_ok ⟨Tryz.func30,fun _ _=>by kernel_rfl⟩ (by intro α args k; unfold rstillxS; split<;>rfl) fun args out hSm hEq=>by
 unfold rstillxS at hEq
 split at hEq
 ·rename_i l
  obtain ⟨N,n,e⟩:=rstillx_fin l hSm
  exact ⟨N,n,(e AOut some).trans hEq⟩
 ·cases hEq
/-! Scene -/
def rsIn {α:Type} (l:List BdI) (R:Option α) (i:Int) (x:Int × Unit):Option (LRes (Int × Unit) α):=
 bif decide (x.1 < i) then
  if 0≤x.1∧x.1 < (l.length:Int) then
   if 0≤i∧i < (l.length:Int) then
    bif (l.getD x.1.toNat bdD).1==(l.getD i.toNat bdD).1 then
     if 0≤x.1∧x.1 < (l.length:Int) then
      if 0≤i∧i < (l.length:Int) then
       bif (l.getD x.1.toNat bdD).2.1==(l.getD i.toNat bdD).2.1 then finL R else some (.cont (IntKind.i64.wrap (x.1 + 1),()))
      else none
     else none
    else some (.cont (IntKind.i64.wrap (x.1 + 1),()))
   else none
  else none
 else some (.brk 2 (x.1,()))
def rsLp {α:Type} (N:Nat) (l:List BdI) (R:Option α) (x:Int × Unit):Option (LRes (Int × Unit) α):=
 afterL (iterL N (rsIn l (finL (σ:=Int × Unit) R) x.1) (0,())) fun id _=>if id=2 then some (.cont (IntKind.i64.wrap (x.1 + 1),())) else none
def rscF {α:Type} (N:Nat) (l:List BdI) (R:Option α) (x:Int × Unit):Option (LRes (Int × Unit) α):=
 bif decide (x.1 < (l.length:Int)) then
  if 0≤x.1∧x.1 < (l.length:Int) then
   if 0≤x.1∧x.1 < (l.length:Int) then
    bif !rbodB (l.getD x.1.toNat bdD).1 (l.getD x.1.toNat bdD).2.1 (l.getD x.1.toNat bdD).x (l.getD x.1.toNat bdD).y (l.getD x.1.toNat bdD).u (l.getD x.1.toNat bdD).v (l.getD x.1.toNat bdD).s then finL R
    else if 0≤x.1∧x.1 < (l.length:Int) then
     bif (l.getD x.1.toNat bdD).o then
      bif !((l.getD x.1.toNat bdD).u==0&&(l.getD x.1.toNat bdD).v==0) then finL R
      else if 0≤x.1∧x.1 < (l.length:Int) then
       bif (l.getD x.1.toNat bdD).s != 0 then finL R else rsLp N l R x
      else none
     else rsLp N l R x
    else none
   else none
  else none
 else some (.brk 0 (x.1,()))
set_option maxRecDepth 100000 in
theorem rscn_text (N n0:Nat) (α:Type) (l:List BdI) (k:AOut→Option α):evFn real tab ((twY fnC0 spL).env real tab N (n0 + 8)) N Tryz.f50 α [.ro (.recd (.cons (.int .i64) (.cons (.int .i64) (.cons (.recd (.cons (.recd (.cons (.int .i64) (.cons (.int .i64) .nil))) (.cons (.recd (.cons (.int .i64) (.cons (.int .i64) .nil))) (.cons (.int .i64) .nil)))) (.cons .bool .nil))))) l] k =
 bif decide ((l.length:Int) > 16) then k (b1 false) else afterL (iterL N (rscF N l (k (b1 false))) (0,())) fun id _=>if id=0 then k (b1 true) else none:=by kernel_rfl
def nmB (a b:BdI):Bool:=a.1==b.1&&a.2.1==b.2.1
def badR (l:List BdI) (i:Nat):Bool:=!bdOk (l.getD i bdD) || (((l.getD i bdD).o&&(!((l.getD i bdD).u==0&&(l.getD i bdD).v==0) || (l.getD i bdD).s != 0)) || (List.range i).any fun k=>nmB (l.getD k bdD) (l.getD i bdD))
theorem rsLp_eq {α:Type} (l:List BdI) (R:Option α) {i:Nat} (hi:i < l.length) (hl:l.length≤maxLen) {N:Nat} (hN:i + 1≤N) :
 rsLp N l R ((i:Int),())=bif (List.range i).any fun k=>nmB (l.getD k bdD) (l.getD i bdD) then finL R else some (.cont (((i + 1:Nat):Int),())):=by
 unfold rsLp
 rw [wrap_next hi hl]
 have key:=any_loop' (N:=N) (f:=rsIn l (finL (σ:=Int × Unit) R) (i:Int)) (K:=fun id (_:Int × Unit)=>if id=2 then some (LRes.cont (α:=α) (((i + 1:Nat):Int),())) else none) (fun j:Nat=>((j:Int),())) i (fun k=>nmB (l.getD k bdD) (l.getD i bdD)) (finL R) (fun j hj=>?_) (y:=((i:Int),())) (b:=2) ?_ (by omega)
 ·refine key.trans ?_
  cases (List.range i).any fun k=>nmB (l.getD k bdD) (l.getD i bdD)<;>rfl
 ·unfold rsIn
  simp only [lt_len hj,cond_true,in_len hi,in_len (show j < l.length by omega),if_pos,and_self,decide_true,Int.toNat_natCast,wrap_next (show j < l.length by omega) hl,nmB]
  cases ((l.getD j bdD).1==(l.getD i bdD).1)<;>cases ((l.getD j bdD).2.1==(l.getD i bdD).2.1)<;>rfl
 ·unfold rsIn
  simp only [not_lt_len,cond_false]
theorem badR_is:∀ (r pre l:List BdI),l=pre++r→Ck.bodsOk (pre.map bdC) (r.map bdC)=!((List.range r.length).any fun j=>badR l (pre.length + j))
 | [],pre,l,_=>rfl
 | b :: r,pre,l,e=>by
   have hb:l.getD pre.length bdD=b:=by rw [e,List.getD_eq_getElem?_getD,List.getElem?_append_right (Nat.le_refl _),Nat.sub_self]; rfl
   have ih:=badR_is r (pre++[b]) l (by rw [e,List.append_assoc]; rfl)
   have h1:(bdC b).bad (pre.map bdC)=badR l pre.length:=by
    have hn:decide ((bdC b).name∈(pre.map bdC).map Ck.Bod.name)=(List.range pre.length).any fun k=>nmB (l.getD k bdD) b:=by
     rw [Bool.eq_iff_iff,decide_eq_true_eq,List.any_eq_true,List.map_map,List.mem_map]
     constructor
     ·rintro ⟨c,hc,he⟩
      obtain ⟨k,hk,rfl⟩:=List.mem_iff_getElem.1 hc
      refine ⟨k,List.mem_range.2 hk,?_⟩
      have:l.getD k bdD=pre[k]:=by rw [e,List.getD_eq_getElem?_getD,List.getElem?_append_left hk,List.getElem?_eq_getElem hk]; rfl
      rw [this]
      have he:(pre[k].1,pre[k].2.1)=(b.1,b.2.1):=he
      simp only [Prod.mk.injEq] at he
      simp only [nmB,he.1,he.2,BEq.rfl,Bool.and_self]
     ·rintro ⟨k,hk,he⟩
      have hk:=List.mem_range.1 hk
      have:l.getD k bdD=pre[k]:=by rw [e,List.getD_eq_getElem?_getD,List.getElem?_append_left hk,List.getElem?_eq_getElem hk]; rfl
      rw [this] at he
      simp only [nmB,Bool.and_eq_true,beq_iff_eq] at he
      exact ⟨pre[k],List.getElem_mem hk,Prod.ext he.1 he.2⟩
    show (!bdOk b || (decide ((bdC b).name∈(pre.map bdC).map Ck.Bod.name) || (b.o&&(!(b.u==0&&b.v==0) || b.s != 0))))=_
    unfold badR
    rw [hb,hn]
    cases bdOk b<;>cases (b.o&&(!(b.u==0&&b.v==0) || b.s != 0))<;>simp
   rw [List.map_cons,Ck.bodsOk,h1,show pre.map bdC++[bdC b]=(pre++[b]).map bdC by rw [List.map_append]; rfl,ih,List.length_cons,List.range_succ_eq_map,List.any_cons,List.any_map,List.length_append,List.length_singleton]
   have:(fun j=>badR l (pre.length + 1 + j))=(fun j=>badR l (pre.length + j)) ∘ Nat.succ:=by
    funext j; show badR l (pre.length + 1 + j)=badR l (pre.length + (j + 1)); congr 1; omega
   rw [this,Nat.add_zero,Bool.not_or]
theorem sce_badR (l:List BdI):sceB l=(decide (l.length≤16)&&!((List.range l.length).any (badR l))):=by
 unfold sceB Ck.sceneB
 have:=badR_is l [] l rfl
 rw [List.map_nil] at this
 rw [this,List.length_map]
 congr 3
 funext j
 rw [List.length_nil,Nat.zero_add]
theorem rscn_fin (l:List BdI) (hs:∀ qSm∈([.ro (.recd (.cons (.int .i64) (.cons (.int .i64) (.cons (.recd (.cons (.recd (.cons (.int .i64) (.cons (.int .i64) .nil))) (.cons (.recd (.cons (.int .i64) (.cons (.int .i64) .nil))) (.cons (.int .i64) .nil)))) (.cons .bool .nil))))) l]:List AVal),Sm qSm):∃ N n,∀ α (k:AOut→Option α),evFn real tab ((twY fnC0 spL).env real tab N n) N Tryz.f50 α [.ro (.recd (.cons (.int .i64) (.cons (.int .i64) (.cons (.recd (.cons (.recd (.cons (.int .i64) (.cons (.int .i64) .nil))) (.cons (.recd (.cons (.int .i64) (.cons (.int .i64) .nil))) (.cons (.int .i64) .nil)))) (.cons .bool .nil))))) l] k=k (b1 (sceB l)):=by
 have hl:l.length≤maxLen:=(hs (.ro (.recd (.cons (.int .i64) (.cons (.int .i64) (.cons (.recd (.cons (.recd (.cons (.int .i64) (.cons (.int .i64) .nil))) (.cons (.recd (.cons (.int .i64) (.cons (.int .i64) .nil))) (.cons (.int .i64) .nil)))) (.cons .bool .nil))))) l) (List.mem_cons_self ..)).len
 refine ⟨l.length + 1,8,fun α k=>(rscn_text _ 0 α l k).trans ?_⟩
 rw [sce_badR]
 cases h:decide ((l.length:Int) > 16)
 ·have h16:=of_decide_eq_false h
  rw [decide_eq_true (show l.length≤16 by omega),Bool.true_and,cond_false]
  refine (any_loop (f:=rscF (l.length + 1) l (k (b1 false))) (fun i:Nat=>((i:Int),())) l.length (badR l) (k (b1 false)) (fun i hi=>?_) (y:=((l.length:Int),())) (b:=0) ?_).trans ?_
  ·unfold rscF
   simp only [lt_len hi,cond_true,in_len hi,if_pos,and_self,decide_true,Int.toNat_natCast,rsLp_eq l (k (b1 false)) hi hl (show i + 1≤l.length + 1 by omega),rbod_eq,badR,bdOk]
   cases bodB (l.getD i bdD).1 (l.getD i bdD).2.1 (l.getD i bdD).x (l.getD i bdD).y (l.getD i bdD).u (l.getD i bdD).v (l.getD i bdD).s<;>cases (l.getD i bdD).o<;>cases ((l.getD i bdD).u==0&&(l.getD i bdD).v==0)<;>cases ((l.getD i bdD).s != 0)<;>rfl
  ·unfold rscF
   simp only [not_lt_len,cond_false]
  ·cases (List.range l.length).any (badR l)<;>rfl
 ·have h16:=of_decide_eq_true h
  rw [decide_eq_false (show ¬ l.length≤16 by omega)]
  rfl
noncomputable def rscnS:Fsp:=fun _ args k=>match args with
 | [.ro (.recd (.cons (.int .i64) (.cons (.int .i64) (.cons (.recd (.cons (.recd (.cons (.int .i64) (.cons (.int .i64) .nil))) (.cons (.recd (.cons (.int .i64) (.cons (.int .i64) .nil))) (.cons (.int .i64) .nil)))) (.cons .bool .nil))))) l]=>k (b1 (sceB l))
 | _=>none
theorem rscnS_ok:FspOk Tryz.prog 50 rscnS:=tower_Y fnC0_ok spL_ok ⟨Tryz.func50,fun _ _=>by kernel_rfl⟩ (by intro α args k; unfold rscnS; split<;>rfl) fun args out hSm hEq=>by
 unfold rscnS at hEq
 split at hEq
 ·rename_i l
  obtain ⟨N,n,e⟩:=rscn_fin l hSm
  exact ⟨N,n,(e AOut some).trans hEq⟩
 ·cases hEq
noncomputable def fnC1:FuncId→Option Fsp:=fun g=>
 if g=11 then some rsame5xS else
 if g=30 then some rstillxS else
 if g=50 then some rscnS else
 fnC0 g
theorem fnC1_ok:FsOk fnC1:=
 fs_cons rsame5xS_ok <|
 fs_cons rstillxS_ok <|
 fs_cons rscnS_ok <|
 fnC0_ok
noncomputable def fnC2:FuncId→Option Fsp:=fun g=>
 fnC1 g
theorem fnC2_ok:FsOk fnC2:=
 fnC1_ok
def rgonS:Fsp:=fun _ args k=>match args with
 | [.agg [.int .i64 _,.int .i64 _,.int .i64 x,.int .i64 y,.int .i64 _,.int .i64 _,.int .i64 _,.bool _]]=>k (b1 (gonB x y))
 | _=>none
theorem rgon_text (N n0:Nat) (α:Type) (a b x y u v g:Int) (o:Bool) (k:AOut→Option α):evFn real tab ((twY fnC2 spL).env real tab N (n0 + 8)) N Tryz.f33 α [.agg [.int .i64 a,.int .i64 b,.int .i64 x,.int .i64 y,.int .i64 u,.int .i64 v,.int .i64 g,.bool o]] k =
 bif decide (x ≥ 146145280) then k (b1 true) else bif decide (x≤-146145280) then k (b1 true) else bif decide (y > 129368064) then k (b1 true) else k (b1 (decide (y < -1977417728)))
 := by kernel_rfl
theorem rgonS_ok:FspOk Tryz.prog 33 rgonS:=tower_Y fnC2_ok spL_ok ⟨Tryz.func33,fun _ _=>by kernel_rfl⟩ (by intro α args k; unfold rgonS; split<;>rfl) fun args out hs h=>by
 unfold rgonS at h
 split at h
 ·rename_i x y _ _ _ _
  refine ⟨1,8,(rgon_text 1 0 AOut _ _ _ _ _ _ _ _ some).trans (Eq.trans ?_ h)⟩
  unfold gonB
  cases decide (x ≥ 146145280)<;>cases decide (x≤-146145280)<;>cases decide (y > 129368064)<;>rfl
 ·cases h
noncomputable def rNxS:Fsp:=fun _ args k=>match args with
 | [.agg [.int .i64 cx,.int .i64 cy,.int .i64 sd,.int .i64 w,.int .i64 h,.ro (.int .i64) pb,.ro (.int .i64) po],.agg [.int .i64 fl,.int .i64 ke,.int .i64 sw,.int .i64 be,.int .i64 we],.agg [.int .i64 ax,.int .i64 ay,.int .i64 vx,.int .i64 vy,.int .i64 sp],.int .i64 u]=>bif rgtB cx cy sd w h pb po fl ke sw be we ax ay vx vy sp u then tkStep (slwV cx cy sd w h pb po fl ke sw be we ax ay) (bdvV cx cy sd w h pb po fl ke sw be we ax ay) ax ay vx vy sp u (fun a b c d e=>k (.ret (.tup [.agg [.int .i64 a,.int .i64 b,.int .i64 c,.int .i64 d,.int .i64 e],iN 0]))) (k (.ret (.tup [.agg [iN 0,iN 0,iN 0,iN 0,iN 0],iN 4]))) else none
 | _=>none
theorem rNxS_ok:FspOk Tryz.prog 60 rNxS where
 enter:=rnxtS_ok.enter
 nat:=by
  intro α args k
  unfold rNxS
  split
  ·rename_i cx cy sd w h pb po fl ke sw be we ax ay vx vy sp u
   cases rgtB cx cy sd w h pb po fl ke sw be we ax ay vx vy sp u
   ·rfl
   ·simp only [cond_true,tkS_k]; rfl
  ·rfl
 calls:=fun args out hout=>rnxtS_ok.calls args out (by
  unfold rNxS at hout
  split at hout
  ·rename_i cx cy sd w h pb po fl ke sw be we ax ay vx vy sp u
   cases hr:rgtB cx cy sd w h pb po fl ke sw be we ax ay vx vy sp u
   ·rw [hr] at hout; cases hout
   ·rw [hr,cond_true,tkS_k] at hout
    unfold rnxtS
    simp only [hr,cond_true]
    exact hout
  ·cases hout)
noncomputable def fnC3:FuncId→Option Fsp:=fun g=>
 if g=55 then some rmeet0S else
 if g=33 then some rgonS else
 if g=60 then some rNxS else
 if g=34 then some (onlyS rStrS) else
 fnC2 g
theorem fnC3_ok:FsOk fnC3:=
 fs_cons rmeet0S_ok <|
 fs_cons rgonS_ok <|
 fs_cons rNxS_ok <|
 fs_cons (only_ok rStrS_ok) <|
 fnC2_ok
abbrev R2:=Int × List BdI × Unit
abbrev R4:=Bool × List HtI × Int × List BdI × Unit
section
variable {α:Type} (cx cy sd w h:Int) (pb po:List Int) (fl ke sw be we:Int) (b:List BrI) (wh el t:Int)
noncomputable def rgT (n:Int) (x:R2) (R:Option α):Option (LRes R2 α):=
 if 0≤x.1∧x.1 < (x.2.1.length:Int) then
  bif rgtB cx cy sd w h pb po fl ke sw be we (x.2.1.getD x.1.toNat bdD).x (x.2.1.getD x.1.toNat bdD).y (x.2.1.getD x.1.toNat bdD).u (x.2.1.getD x.1.toNat bdD).v (x.2.1.getD x.1.toNat bdD).s n then
   tkStep (slwV cx cy sd w h pb po fl ke sw be we (x.2.1.getD x.1.toNat bdD).x (x.2.1.getD x.1.toNat bdD).y) (bdvV cx cy sd w h pb po fl ke sw be we (x.2.1.getD x.1.toNat bdD).x (x.2.1.getD x.1.toNat bdD).y) (x.2.1.getD x.1.toNat bdD).x (x.2.1.getD x.1.toNat bdD).y (x.2.1.getD x.1.toNat bdD).u (x.2.1.getD x.1.toNat bdD).v (x.2.1.getD x.1.toNat bdD).s n
    (fun a c d e g=>if 0≤x.1∧x.1 < (x.2.1.length:Int) then some (.cont (IntKind.i64.wrap (x.1 + 1),x.2.1.set x.1.toNat ((x.2.1.getD x.1.toNat bdD).mv a c d e g),())) else none) (finL R)
  else none
 else none
noncomputable def rgF (R:Option α) (x:R2):Option (LRes R2 α):=
 bif decide (x.1 < (x.2.1.length:Int)) then
  if 0≤x.1∧x.1 < (x.2.1.length:Int) then
   if 0≤x.1∧x.1 < (x.2.1.length:Int) then
    bif (x.2.1.getD x.1.toNat bdD).o then some (.cont (IntKind.i64.wrap (x.1 + 1),x.2.1,()))
    else bif (x.2.1.getD x.1.toNat bdD).u==0&&(x.2.1.getD x.1.toNat bdD).v==0 then some (.cont (IntKind.i64.wrap (x.1 + 1),x.2.1,()))
    else bif x.1==wh then (bif er2 (brsB b&&tckB t)==0 then rgT cx cy sd w h pb po fl ke sw be we (selI (brsB b&&tckB t) (strN b t)) x R else none)
    else rgT cx cy sd w h pb po fl ke sw be we 0 x R
   else none
  else none
 else some (.brk 0 (x.1,x.2.1,()))
def rpS {β:Type} (S:List BdI) (a c:Int) (A B:BdI) (K:List BdI→Option β):Option β:=
 if 0≤a∧a < (S.length:Int) then if 0≤c∧c < ((S.set a.toNat A).length:Int) then K ((S.set a.toNat A).set c.toNat B) else none else none
noncomputable def rpE (R:Option α) (t a:Int) (A B:BdI) (x:R4):Option (LRes R4 α):=
 bif mtOk A.1 A.2.1 A.x A.y A.u A.v A.s B.1 B.2.1 B.x B.y B.u B.v B.s el&&tchB A.x A.y B.x B.y A.o B.o then
  bif decide (0 < mtJ A.x A.y A.u A.v B.x B.y B.u B.v) then
   bif mtFit A.1 A.2.1 A.x A.y A.u A.v A.s B.1 B.2.1 B.x B.y B.u B.v B.s el then
    rpS x.2.2.2.1 a x.2.2.1 (meA el A B) (meZ el A B) fun S=>if (x.2.1.length + [(t,a,x.2.2.1,())].length) * 24≤room then some (.cont (true,x.2.1++[(t,a,x.2.2.1,())],IntKind.i64.wrap (x.2.2.1 + 1),S,())) else none
   else finL R
  else rpS x.2.2.2.1 a x.2.2.1 A B fun S=>some (.cont (x.1,x.2.1,IntKind.i64.wrap (x.2.2.1 + 1),S,()))
 else none
noncomputable def rpP (R:Option α) (t a:Int) (x:R4):Option (LRes R4 α):=
 bif decide (x.2.2.1 < (x.2.2.2.1.length:Int)) then
  if 0≤a∧a < (x.2.2.2.1.length:Int) then
   if 0≤x.2.2.1∧x.2.2.1 < (x.2.2.2.1.length:Int) then
    bif rspoB (x.2.2.2.1.getD a.toNat bdD).x (x.2.2.2.1.getD a.toNat bdD).y&&rspoB (x.2.2.2.1.getD x.2.2.1.toNat bdD).x (x.2.2.2.1.getD x.2.2.1.toNat bdD).y then
     bif !rtchB (x.2.2.2.1.getD a.toNat bdD).x (x.2.2.2.1.getD a.toNat bdD).y (x.2.2.2.1.getD x.2.2.1.toNat bdD).x (x.2.2.2.1.getD x.2.2.1.toNat bdD).y (x.2.2.2.1.getD a.toNat bdD).o (x.2.2.2.1.getD x.2.2.1.toNat bdD).o then some (.cont (x.1,x.2.1,IntKind.i64.wrap (x.2.2.1 + 1),x.2.2.2.1,()))
     else if 0≤a∧a < (x.2.2.2.1.length:Int) then
      if 0≤x.2.2.1∧x.2.2.1 < (x.2.2.2.1.length:Int) then rpE el R t a (x.2.2.2.1.getD a.toNat bdD) (x.2.2.2.1.getD x.2.2.1.toNat bdD) x
      else none
     else none
    else none
   else none
  else none
 else some (.brk 4 (x.1,x.2.1,x.2.2.1,x.2.2.2.1,()))
noncomputable def raP (N:Nat) (R:Option α) (t:Int) (x:R4):Option (LRes R4 α):=
 bif decide (x.2.2.1 < (x.2.2.2.1.length:Int)) then
  afterL (iterL N (rpP el (finL (σ:=R4) R) t x.2.2.1) (x.1,x.2.1,IntKind.i64.wrap (x.2.2.1 + 1),x.2.2.2.1,())) fun id y=>if id=4 then some (.cont (y.1,y.2.1,IntKind.i64.wrap (x.2.2.1 + 1),y.2.2.2.1,())) else none
 else some (.brk 2 (x.1,x.2.1,x.2.2.1,x.2.2.2.1,()))
noncomputable def rrP (N:Nat) (R:Option α) (t:Int) (x:R4):Option (LRes R4 α):=
 bif decide (x.2.2.1 < 8) then
  bif x.1 then
   afterL (iterL N (raP el N (finL (σ:=R4) R) t) (false,x.2.1,0,x.2.2.2.1,())) fun id y=>if id=2 then some (.cont (y.1,y.2.1,IntKind.i64.wrap (x.2.2.1 + 1),y.2.2.2.1,())) else none
  else some (.brk 0 (x.1,x.2.1,x.2.2.1,x.2.2.2.1,()))
 else some (.brk 0 (x.1,x.2.1,x.2.2.1,x.2.2.2.1,()))
def ofR (S:List BdI) (k:Nat):List BdI:=S.set k ((S.getD k bdD).1,(S.getD k bdD).2.1,(((S.getD k bdD).x,(S.getD k bdD).y,()),(0,0,()),0,()),(S.getD k bdD).o,())
def rgoF (x:R2):Option (LRes R2 α):=
 bif decide (x.1 < (x.2.1.length:Int)) then
  if 0≤x.1∧x.1 < (x.2.1.length:Int) then
   bif gonB (x.2.1.getD x.1.toNat bdD).x (x.2.1.getD x.1.toNat bdD).y then
    if 0≤x.1∧x.1 < (x.2.1.length:Int) then
     bif !(x.2.1.getD x.1.toNat bdD).o then
      if 0≤x.1∧x.1 < (x.2.1.length:Int) then
       if 0≤x.1∧x.1 < ((x.2.1.set x.1.toNat (x.2.1.getD x.1.toNat bdD).ou).length:Int) then
        if 0≤x.1∧x.1 < ((x.2.1.set x.1.toNat (x.2.1.getD x.1.toNat bdD).ou).length:Int) then
         some (.cont (IntKind.i64.wrap (x.1 + 1),ofR (x.2.1.set x.1.toNat (x.2.1.getD x.1.toNat bdD).ou) x.1.toNat,()))
        else none
       else none
      else none
     else some (.cont (IntKind.i64.wrap (x.1 + 1),x.2.1,()))
    else none
   else some (.cont (IntKind.i64.wrap (x.1 + 1),x.2.1,()))
  else none
 else some (.brk 6 (x.1,x.2.1,()))
abbrev rtO (S:List BdI) (H:List HtI) (e:Int):AOut:=.ret (.tup [.ro (.recd (.cons (.int .i64) (.cons (.int .i64) (.cons (.recd (.cons (.recd (.cons (.int .i64) (.cons (.int .i64) .nil))) (.cons (.recd (.cons (.int .i64) (.cons (.int .i64) .nil))) (.cons (.int .i64) .nil)))) (.cons .bool .nil))))) S,.ro (.recd (.cons (.int .i64) (.cons (.int .i64) (.cons (.int .i64) .nil)))) H,iN e])
noncomputable def rcT (N:Nat) (l:List BdI) (k:AOut→Option α):Option α:=
 afterL (iterL N (rgF cx cy sd w h pb po fl ke sw be we b wh t (k (rtO [] [] 4))) (0,[]++l,())) fun id y=>if id=0 then
  afterL (iterL N (rrP el N (k (rtO [] [] 4)) t) (true,[],0,y.2.1,())) fun id y=>if id=0 then
   afterL (iterL N rgoF (0,y.2.2.2.1,())) fun id z=>if id=6 then k (rtO z.2.1 y.2.1 0) else none
  else none
 else none
end
set_option maxRecDepth 100000 in
theorem rtk_text (N n0:Nat) (α:Type) (cx cy sd w h:Int) (pb po:List Int) (fl ke sw be we:Int) (b:List BrI) (wh el:Int) (l:List BdI) (t:Int) (k:AOut→Option α):evFn real tab ((twY fnC3 spL).env real tab N (n0 + 13)) N Tryz.f31 α [.agg [.int .i64 cx,.int .i64 cy,.int .i64 sd,.int .i64 w,.int .i64 h,.ro (.int .i64) pb,.ro (.int .i64) po,.int .i64 fl,.int .i64 ke,.int .i64 sw,.int .i64 be,.int .i64 we,.ro (.recd (.cons (.int .i64) (.cons (.int .i64) (.cons (.int .i64) .nil)))) b,.int .i64 wh,.int .i64 el],.ro (.recd (.cons (.int .i64) (.cons (.int .i64) (.cons (.recd (.cons (.recd (.cons (.int .i64) (.cons (.int .i64) .nil))) (.cons (.recd (.cons (.int .i64) (.cons (.int .i64) .nil))) (.cons (.int .i64) .nil)))) (.cons .bool .nil))))) l,.int .i64 t] k =
 (if (List.length ([]:List BdI) + l.length) * 64≤room then rcT cx cy sd w h pb po fl ke sw be we b wh el t N l k else none):=by kernel_rfl
abbrev rs2 (i:Nat) (S:List BdI):R2:=((i:Int),S,())
section
variable {α:Type} (cx cy sd w h:Int) (pb po:List Int) (fl ke sw be we:Int) (b:List BrI) (wh t:Int)
theorem rgd_step (hi:iceB cx cy sd w h pb po=true) (hg:graB fl ke sw be we=true) (hb:brsB b=true) (ht:tckB t=true) (R:Option α) {n i:Nat} (hin:i < n) (hn:n≤16) {S:List BdI} (hS:S.length=n∧okS S) :
 rgF cx cy sd w h pb po fl ke sw be we b wh t R (rs2 i S)=match glP (slwV cx cy sd w h pb po fl ke sw be we) (bdvV cx cy sd w h pb po fl ke sw be we) (stP wh b t) i S with | some S'=>some (.cont (rs2 (i + 1) S')) | none=>finL R:=by
 have hmx:n≤maxLen:=by have:maxLen=9223372036854775807:=rfl; omega
 have ok:=hS.2 i
 have hall:b.all brmB=true:=by unfold brsB at hb; rw [Bool.and_eq_true] at hb; exact hb.2
 have body:∀ m:Int,grnB m=true→rgT (α:=α) cx cy sd w h pb po fl ke sw be we m (rs2 i S) R=match gnS (slwV cx cy sd w h pb po fl ke sw be we (S.getD i bdD).x (S.getD i bdD).y) (bdvV cx cy sd w h pb po fl ke sw be we (S.getD i bdD).x (S.getD i bdD).y) ((S.getD i bdD).x,(S.getD i bdD).y,(S.getD i bdD).u,(S.getD i bdD).v,(S.getD i bdD).s) m with | none=>finL R | some s=>some (.cont (rs2 (i + 1) (S.set i ((S.getD i bdD).mv s.1 s.2.1 s.2.2.1 s.2.2.2.1 s.2.2.2.2)))):=fun m hm=>by
  unfold rgT
  simp only [Int.toNat_natCast,hS.1,in_len hin,if_pos,and_self,decide_true]
  have hr:rgtB cx cy sd w h pb po fl ke sw be we (S.getD i bdD).x (S.getD i bdD).y (S.getD i bdD).u (S.getD i bdD).v (S.getD i bdD).s m=true:=by
   unfold rgtB
   rw [hi,hg,show movB (S.getD i bdD).x (S.getD i bdD).y (S.getD i bdD).u (S.getD i bdD).v (S.getD i bdD).s=true from bd_mov ok,hm]; rfl
  rw [hr,cond_true,wrap_next hin hmx]
  exact gnS_step (slwV cx cy sd w h pb po fl ke sw be we (S.getD i bdD).x (S.getD i bdD).y) (bdvV cx cy sd w h pb po fl ke sw be we (S.getD i bdD).x (S.getD i bdD).y) ((S.getD i bdD).x,(S.getD i bdD).y,(S.getD i bdD).u,(S.getD i bdD).v,(S.getD i bdD).s) m (fun a c d e g=>some (.cont (rs2 (i + 1) (S.set i ((S.getD i bdD).mv a c d e g))))) (finL R)
 unfold rgF glP glB
 simp only [hS.1,lt_len hin,cond_true,in_len hin,if_pos,and_self,decide_true,Int.toNat_natCast,wrap_next hin hmx]
 cases ho:(S.getD i bdD).o
 ·simp only [cond_false]
  cases hr:rstB (S.getD i bdD)
  ·have hr':((S.getD i bdD).u==0&&(S.getD i bdD).v==0)=false:=by unfold rstB at hr; rw [Bool.and_true] at hr; exact hr
   rw [hr']
   simp only [cond_false]
   have he:(er2 (brsB b&&tckB t)==0)=true:=by rw [hb,ht]; rfl
   have hsel:selI (brsB b&&tckB t) (strN b t)=strN b t:=by rw [hb,ht]; rfl
   cases hw:((i:Int)==wh)
   ·have e0:stP wh b t i=0:=by unfold stP; rw [hw]; rfl
    rw [cond_false,body 0 (by rfl),e0]
    cases gnS (slwV cx cy sd w h pb po fl ke sw be we (S.getD i bdD).x (S.getD i bdD).y) (bdvV cx cy sd w h pb po fl ke sw be we (S.getD i bdD).x (S.getD i bdD).y) ((S.getD i bdD).x,(S.getD i bdD).y,(S.getD i bdD).u,(S.getD i bdD).v,(S.getD i bdD).s) 0<;>rfl
   ·have e0:stP wh b t i=strN b t:=by unfold stP; rw [hw]; rfl
    rw [cond_true,he,cond_true,hsel,body (strN b t) (in_dec.2 (str_in hall t)),e0]
    cases gnS (slwV cx cy sd w h pb po fl ke sw be we (S.getD i bdD).x (S.getD i bdD).y) (bdvV cx cy sd w h pb po fl ke sw be we (S.getD i bdD).x (S.getD i bdD).y) ((S.getD i bdD).x,(S.getD i bdD).y,(S.getD i bdD).u,(S.getD i bdD).v,(S.getD i bdD).s) (strN b t)<;>rfl
  ·have hr':((S.getD i bdD).u==0&&(S.getD i bdD).v==0)=true:=by unfold rstB at hr; rw [Bool.and_true] at hr; exact hr
   rw [hr']
   simp only [cond_true]
   rw [set_same]
 ·simp only [cond_true]
  rw [set_same]
theorem rgd_loop (hi:iceB cx cy sd w h pb po=true) (hg:graB fl ke sw be we=true) (hb:brsB b=true) (ht:tckB t=true) (R:Option α) {S:List BdI} (hS:okS S) (hl:S.length≤16) (K:Nat→R2→Option α) {N:Nat} (hN:S.length < N) :
 afterL (iterL N (rgF cx cy sd w h pb po fl ke sw be we b wh t R) (0,S,())) K=match glL (slwV cx cy sd w h pb po fl ke sw be we) (bdvV cx cy sd w h pb po fl ke sw be we) (stP wh b t) S with | some S'=>K 0 (rs2 S.length S') | none=>R:=by
 refine Eq.trans (fold_loop (f:=rgF cx cy sd w h pb po fl ke sw be we b wh t R) rs2 (glP (slwV cx cy sd w h pb po fl ke sw be we) (bdvV cx cy sd w h pb po fl ke sw be we) (stP wh b t)) (fun _ S'=>S'.length=S.length∧okS S') R (b:=0) (n:=S.length) (fun i S' hin hv=>by
  rw [rgd_step cx cy sd w h pb po fl ke sw be we b wh t hi hg hb ht R hin hl hv]
  cases glP (slwV cx cy sd w h pb po fl ke sw be we) (bdvV cx cy sd w h pb po fl ke sw be we) (stP wh b t) i S'<;>rfl) (fun i S' S'' hin hv hs=>glP_inv hv hs) (fun S' hv=>?_) S.length 0 S N (by omega) ⟨rfl,hS⟩ hN) (by unfold glL; cases foldO (glP (slwV cx cy sd w h pb po fl ke sw be we) (bdvV cx cy sd w h pb po fl ke sw be we) (stP wh b t)) S.length 0 S<;>rfl)
 unfold rgF
 simp only [hv.1,not_lt_len,cond_false]
end
abbrev r4 (c:Nat) (s:PsI):R4:=(s.2.2,s.2.1,(c:Int),s.1,())
theorem rpr_step {α:Type} (R:Option α) {t el:Int} (he:0≤el∧el≤1000) {n H a c:Nat} (hac:a < c) (hc:c < n) (hn:n≤16) (hH:H≤5000) {s:PsI} (hs:PsIs n H s) :
 rpP el R t (a:Int) (r4 c s)=match pcP t el a c s with | some s'=>some (.cont (r4 (c + 1) s')) | none=>finL R:=by
 have hroom:room ≥ 1000000:=by decide
 have hmx:n≤maxLen:=by have:maxLen=9223372036854775807:=rfl; omega
 have ha:a < n:=by omega
 have oa:=hs.ok a
 have ob:=hs.ok c
 have hh:=hs.hits
 have pa:=rspo_of (bod_is.1 oa)
 have pb:=rspo_of (bod_is.1 ob)
 have et:=tch_eq (s.1.getD a bdD).o (s.1.getD c bdD).o (bod_is.1 oa) (bod_is.1 ob)
 unfold rpP pcP r4
 simp only [hs.len,lt_len hc,cond_true,in_len hc,in_len ha,if_pos,and_self,decide_true,Int.toNat_natCast,wrap_next hc hmx]
 rw [pa,pb,et]
 simp only [Bool.and_self,cond_true]
 cases ht:tchB (s.1.getD a bdD).x (s.1.getD a bdD).y (s.1.getD c bdD).x (s.1.getD c bdD).y (s.1.getD a bdD).o (s.1.getD c bdD).o
 ·have hm:meB (s.1.getD a bdD) (s.1.getD c bdD)=false:=by unfold meB mtGo; rw [ht]; rfl
  rw [hm]; rfl
 ·simp only [Bool.not_true,cond_false]
  have hok:mtOk (s.1.getD a bdD).1 (s.1.getD a bdD).2.1 (s.1.getD a bdD).x (s.1.getD a bdD).y (s.1.getD a bdD).u (s.1.getD a bdD).v (s.1.getD a bdD).s (s.1.getD c bdD).1 (s.1.getD c bdD).2.1 (s.1.getD c bdD).x (s.1.getD c bdD).y (s.1.getD c bdD).u (s.1.getD c bdD).v (s.1.getD c bdD).s el=true:=by
   unfold mtOk
   rw [show bodB _ _ _ _ _ _ _=true from oa,show bodB _ _ _ _ _ _ _=true from ob,decide_eq_true he.1,decide_eq_true he.2]; rfl
  unfold rpE
  rw [hok,ht]
  have hm:meB (s.1.getD a bdD) (s.1.getD c bdD)=decide (0 < mtJ (s.1.getD a bdD).x (s.1.getD a bdD).y (s.1.getD a bdD).u (s.1.getD a bdD).v (s.1.getD c bdD).x (s.1.getD c bdD).y (s.1.getD c bdD).u (s.1.getD c bdD).v):=by
   unfold meB mtGo; rw [ht]; rfl
  have hf:meF el (s.1.getD a bdD) (s.1.getD c bdD)=mtFit (s.1.getD a bdD).1 (s.1.getD a bdD).2.1 (s.1.getD a bdD).x (s.1.getD a bdD).y (s.1.getD a bdD).u (s.1.getD a bdD).v (s.1.getD a bdD).s (s.1.getD c bdD).1 (s.1.getD c bdD).2.1 (s.1.getD c bdD).x (s.1.getD c bdD).y (s.1.getD c bdD).u (s.1.getD c bdD).v (s.1.getD c bdD).s el:=rfl
  rw [hm,hf]
  simp only [Bool.and_self,cond_true]
  unfold rpS
  simp only [hs.len,List.length_set,in_len hc,in_len ha,if_pos,and_self,decide_true,Int.toNat_natCast,wrap_next hc hmx,List.length_singleton]
  cases decide (0 < mtJ (s.1.getD a bdD).x (s.1.getD a bdD).y (s.1.getD a bdD).u (s.1.getD a bdD).v (s.1.getD c bdD).x (s.1.getD c bdD).y (s.1.getD c bdD).u (s.1.getD c bdD).v)
  ·simp only [cond_false]
   have hne:¬ (a=c∧a < s.1.length):=fun h=>by omega
   have e1:(s.1.set a (s.1.getD a bdD)).set c (s.1.getD c bdD)=s.1:=by rw [set_same,set_same]
   rw [e1]
  ·simp only [cond_true]
   cases mtFit (s.1.getD a bdD).1 (s.1.getD a bdD).2.1 (s.1.getD a bdD).x (s.1.getD a bdD).y (s.1.getD a bdD).u (s.1.getD a bdD).v (s.1.getD a bdD).s (s.1.getD c bdD).1 (s.1.getD c bdD).2.1 (s.1.getD c bdD).x (s.1.getD c bdD).y (s.1.getD c bdD).u (s.1.getD c bdD).v (s.1.getD c bdD).s el
   ·rfl
   ·simp only [cond_true]
    rw [if_pos (by omega)]
theorem rrw_step {α:Type} (R:Option α) {t el:Int} (he:0≤el∧el≤1000) {n H a:Nat} (ha:a < n) (hn:n≤16) (hH:H + n≤5000) {s:PsI} (hs:PsIs n H s) {N:Nat} (hN:n < N) :
 raP el N R t (r4 a s)=match rwP t el n a s with | some s'=>some (.cont (r4 (a + 1) s')) | none=>finL R:=by
 have hmx:n≤maxLen:=by have:maxLen=9223372036854775807:=rfl; omega
 unfold raP rwP
 have key:=fold_loop (f:=rpP el (finL (σ:=R4) R) t (a:Int)) (K:=fun id (y:R4)=>if id=4 then some (LRes.cont (α:=α) (σ:=R4) (y.1,y.2.1,((a + 1:Nat):Int),y.2.2.2.1,())) else none) r4 (pcP t el a) (fun c s'=>a < c∧PsIs n (H + c) s') (finL (σ:=R4) R) (b:=4) (n:=n)
  (fun c s' hc hv=>by
   rw [rpr_step (finL (σ:=R4) R) he hv.1 hc hn (by omega) hv.2]
   cases pcP t el a c s'<;>rfl) (fun c s' s'' hc hv hst=>⟨by omega,pc_inv hv.2 hst⟩) (fun s' hv=>by
   unfold rpP r4
   simp only [hv.2.len,not_lt_len,cond_false]) (n - (a + 1)) (a + 1) s N (by omega) ⟨by omega,hs.len,hs.ok,by have:=hs.hits; omega⟩ (by omega)
 show (bif decide ((a:Int) < (s.1.length:Int)) then _ else _)=_
 rw [hs.len,lt_len ha,cond_true,wrap_next ha hmx]
 refine key.trans ?_
 cases foldO (pcP t el a) (n - (a + 1)) (a + 1) s with
 | none=>rfl
 | some s'=>rfl
theorem rrd_step {α:Type} (R:Option α) {t el:Int} (he:0≤el∧el≤1000) {n H:Nat} (hn:n≤16) (hH:H + n * n≤4000) {s:PsI} (hs:PsIs n H s) {N:Nat} (hN:n < N) (K:Nat→R4→Option α) :
 afterL (iterL N (raP el N R t) (false,s.2.1,0,s.1,())) K=match rdP t el s with | some s'=>K 2 (r4 n s') | none=>R:=by
 have hs0:PsIs n (H + 0 * n) (s.1,s.2.1,false):=⟨hs.len,hs.ok,by have:=hs.hits; show s.2.1.length≤_; omega⟩
 have hb:∀ a:Nat,a≤n→a * n≤n * n:=fun a ha=>Nat.mul_le_mul_right n ha
 refine Eq.trans (fold_loop (f:=raP el N R t) r4 (rwP t el n) (fun a s'=>PsIs n (H + a * n) s') R (b:=2) (n:=n) (fun a s' ha hv=>by
  have:=hb (a + 1) (by omega)
  have e:(a + 1) * n=a * n + n:=Nat.succ_mul a n
  rw [rrw_step R he ha hn (by omega) hv hN]
  cases rwP t el n a s'<;>rfl) (fun a s' s'' ha hv hst=>by
  have e:(a + 1) * n=a * n + n:=Nat.succ_mul a n
  have:=rw_inv ha hv hst
  exact ⟨this.len,this.ok,by have:=this.hits; omega⟩) (fun s' hv=>by
  show (bif decide ((n:Int) < (s'.1.length:Int)) then _ else _)=_
  rw [hv.len,not_lt_len,cond_false]) n 0 (s.1,s.2.1,false) N (by omega) hs0 hN) ?_
 unfold rdP
 rw [hs.len]
 cases foldO (rwP t el n) n 0 (s.1,s.2.1,false)<;>rfl
theorem rrs_loop {α:Type} (R:Option α) {el t:Int} (he:0≤el∧el≤1000) {n:Nat} (hn:n≤16) (K:Nat→R4→Option α) (hK:∀ m hh (j:Int) S,K 0 (m,hh,j,S,())=K 0 (false,hh,0,S,())) :
 ∀ (m i H:Nat) (s:PsI) (M:Nat),m + i=8→H + m * 256≤2300→PsIs n H s→s.2.2=true→∀ N,n < N→m < M→afterL (iterL M (rrP el N R t) (r4 i s)) K=match rnsP t el m s with | some s'=>K 0 (false,s'.2.1,0,s'.1,()) | none=>R
 | 0,i,H,s,M,hi,hH,hs,hm,N,hN,hM=>by
   obtain ⟨M,rfl⟩:∃ q,M=q + 1:=⟨M - 1,by omega⟩
   have e:rrP el N R t (r4 i s)=some (.brk 0 (r4 i s)):=by
    show (bif decide ((i:Int) < 8) then _ else _)=_
    rw [decide_eq_false (by omega),cond_false]
   rw [iterL,e]
   exact hK _ _ _ _
 | m + 1,i,H,s,M,hi,hH,hs,hm,N,hN,hM=>by
   obtain ⟨M,rfl⟩:∃ q,M=q + 1:=⟨M - 1,by omega⟩
   have hnn:n * n≤256:=Nat.mul_le_mul hn hn
   have hb:H + n * n≤4000:=by omega
   have hw:IntKind.i64.wrap ((i:Int) + 1)=((i + 1:Nat):Int):=by rw [i64_in _ (by omega)]; rfl
   have e:rrP el N R t (r4 i s)=match rdP t el s with | some s'=>some (.cont (r4 (i + 1) s')) | none=>finL R:=by
    show (bif decide ((i:Int) < 8) then (bif s.2.2 then afterL (iterL N (raP el N (finL (σ:=R4) R) t) (false,s.2.1,0,s.1,())) _ else _) else _)=_
    rw [decide_eq_true (by omega),cond_true,hm,cond_true,rrd_step (finL (σ:=R4) R) he hn hb hs hN]
    cases rdP t el s with
    | none=>rfl
    | some s'=>
      show some (LRes.cont (s'.2.2,s'.2.1,IntKind.i64.wrap ((i:Int) + 1),s'.1,()))=_
      rw [hw]
   rw [iterL,e,rnsP]
   cases hr:rdP t el s with
   | none=>cases R<;>rfl
   | some s'=>
     have hv:=rd_inv hs hr
     simp only
     cases hm:s'.2.2
     ·simp only [cond_false]
      obtain ⟨M,rfl⟩:∃ q,M=q + 1:=⟨M - 1,by omega⟩
      have e2:rrP el N R t (r4 (i + 1) s')=some (.brk 0 (r4 (i + 1) s')):=by
       show (bif decide (((i + 1:Nat):Int) < 8) then (bif s'.2.2 then _ else _) else _)=_
       rw [hm,cond_false]
       cases decide (((i + 1:Nat):Int) < 8)<;>rfl
      rw [iterL,e2]
      exact hK _ _ _ _
     ·simp only [cond_true]
      exact rrs_loop R he hn K hK m (i + 1) (H + n * n) s' M (by omega) (by omega) hv hm N hN (by omega)
theorem rgo_loop {α:Type} {S:List BdI} (hl:S.length≤16) (K:Nat→R2→Option α) {N:Nat} (hN:S.length < N) :
 afterL (iterL N rgoF (0,S,())) K=K 6 (rs2 S.length (S.map gnB)):=by
 have hmx:S.length≤maxLen:=by have:maxLen=9223372036854775807:=rfl; omega
 refine Eq.trans (fold_loop (f:=rgoF) rs2 gnP (fun _ S'=>S'.length=S.length) none (b:=6) (n:=S.length) (fun i S' hi hv=>?_) (fun i S' S'' hi hv hs=>?_) (fun S' hv=>?_) S.length 0 S N (by omega) rfl hN) ?_
 ·unfold rgoF gnP gnB
  simp only [List.length_set,hv,lt_len hi,cond_true,in_len hi,if_pos,and_self,decide_true,Int.toNat_natCast,wrap_next hi hmx]
  cases gonB (S'.getD i bdD).x (S'.getD i bdD).y
  ·simp only [Bool.and_false,cond_false]; rw [set_same]
  ·simp only [cond_true,Bool.and_true]
   cases ho:(S'.getD i bdD).o
   ·simp only [Bool.not_false,cond_true]
    unfold ofR
    rw [getD_set,if_pos ⟨rfl,by rw [hv]; exact hi⟩,List.set_set]
    rfl
   ·simp only [Bool.not_true,cond_false]; rw [set_same]
 ·cases hs
  show (S'.set i _).length=_
  rw [List.length_set]; exact hv
 ·unfold rgoF
  simp only [hv,not_lt_len,cond_false]
 ·have:=foldO_map gnB bdD S.length 0 S S (by omega) rfl
  unfold gnP
  rw [this]
theorem rcT_fin {α:Type} (cx cy sd w h:Int) (pb po:List Int) (fl ke sw be we:Int) (b:List BrI) (wh el t:Int) (l:List BdI) (hi:iceB cx cy sd w h pb po=true) (hg:graB fl ke sw be we=true) (hs:okS l) (hl:l.length≤16) (hb:brsB b=true) (ht:tckB t=true) (he:0≤el∧el≤1000) (k:AOut→Option α) :
 rcT cx cy sd w h pb po fl ke sw be we b wh el t 30 l k=match tkP (slwV cx cy sd w h pb po fl ke sw be we) (bdvV cx cy sd w h pb po fl ke sw be we) (stP wh b t) t el l with | some p=>k (rtO p.1 p.2 0) | none=>k (rtO [] [] 4):=by
 unfold rcT tkP
 refine (rgd_loop cx cy sd w h pb po fl ke sw be we b wh t hi hg hb ht (k (rtO [] [] 4)) hs hl _ (by omega)).trans ?_
 cases h1:glL (slwV cx cy sd w h pb po fl ke sw be we) (bdvV cx cy sd w h pb po fl ke sw be we) (stP wh b t) l with
 | none=>rfl
 | some S1=>
   have hv:S1.length=l.length∧okS S1:=foldO_inv (step:=glP (slwV cx cy sd w h pb po fl ke sw be we) (bdvV cx cy sd w h pb po fl ke sw be we) (stP wh b t)) (inv:=fun _ S=>S.length=l.length∧okS S) (n:=l.length) (fun i t t' hin hv hs=>glP_inv hv hs) l.length 0 l S1 (by omega) ⟨rfl,hs⟩ h1
   refine (rrs_loop (k (rtO [] [] 4)) he (n:=S1.length) (by omega) _ (fun m hh j S=>rfl) 8 0 0 (S1,[],true) 30 (by omega) (by omega) ⟨rfl,hv.2,Nat.zero_le _⟩ rfl 30 (by omega) (by omega)).trans ?_
   simp only
   cases h2:rnsP t el 8 (S1,[],true) with
   | none=>rfl
   | some s'=>
     obtain ⟨H',hv'⟩:=rns_inv (n:=S1.length) (by omega) 8 0 (s:=(S1,[],true)) ⟨rfl,hv.2,Nat.zero_le _⟩ h2
     exact rgo_loop (by rw [hv'.len]; omega) _ (by rw [hv'.len]; omega)
/-! Even ice, plain. -/
theorem mov_plc {s:St5} (h:mov5 s=true):plcB s.1 s.2.1=true:=(plc_iff ..).2 (mov_iff.1 h).1
structure KpB (a b:BdI):Prop where
 n1:b.1=a.1
 n2:b.2.1=a.2.1
 o:b.o=a.o
 rest:b.o=true→b.u=0∧b.v=0∧b.s=0
structure KpS (l S:List BdI):Prop where
 len:S.length=l.length
 ok:okS S
 kp:∀ i,KpB (l.getD i bdD) (S.getD i bdD)
theorem KpS.set {l S:List BdI} (h:KpS l S) {i:Nat} {b:BdI} (hb:bdOk b=true) (hk:KpB (l.getD i bdD) b):KpS l (S.set i b):=by
 refine ⟨by rw [List.length_set]; exact h.len,okS_set h.ok hb,fun j=>?_⟩
 rw [getD_set]
 split
 ·rename_i e; rw [← e.1]; exact hk
 ·exact h.kp j
theorem KpS.glide {l S S':List BdI} {sl bd:Int→Int→Int} {st:Nat→Int} {i:Nat} (h:KpS l S) (hs:glP sl bd st i S=some S'):KpS l S':=by
 unfold glP glB at hs
 have hb:=h.ok i
 have hk:=h.kp i
 have same:S.set i (S.getD i bdD)=S'→KpS l S':=fun e=>by rw [← e]; exact h.set hb hk
 cases ho:(S.getD i bdD).o
 ·rw [ho,cond_false] at hs
  cases hr:rstB (S.getD i bdD)
  ·rw [hr,cond_false] at hs
   cases hg:gnS (sl (S.getD i bdD).x (S.getD i bdD).y) (bd (S.getD i bdD).x (S.getD i bdD).y) ((S.getD i bdD).x,(S.getD i bdD).y,(S.getD i bdD).u,(S.getD i bdD).v,(S.getD i bdD).s) (st i) with
   | none=>rw [hg] at hs; cases hs
   | some s=>
     rw [hg] at hs
     cases hs
     refine h.set (mv_ok hb (gnS_mov _ _ _ _ _ (bd_mov hb) hg)) ⟨hk.n1,hk.n2,hk.o,fun e=>?_⟩
     have e':(S.getD i bdD).o=true:=e
     rw [ho] at e'; cases e'
  ·rw [hr,cond_true] at hs; cases hs; exact same rfl
 ·rw [ho,cond_true] at hs; cases hs; exact same rfl
theorem meB_in {p q:BdI} (h:meB p q=true):p.o=false∧q.o=false:=by
 unfold meB mtGo tchB at h
 simp only [Bool.and_eq_true,Bool.not_eq_true'] at h
 exact ⟨h.1.1,h.1.2.1⟩
theorem KpS.pair {l:List BdI} {t el:Int} {a c:Nat} {s s':PsI} (h:KpS l s.1) (hs:pcP t el a c s=some s'):KpS l s'.1:=by
 unfold pcP at hs
 cases hm:meB (s.1.getD a bdD) (s.1.getD c bdD)
 ·rw [hm,cond_false] at hs; cases hs; exact h
 ·rw [hm,cond_true] at hs
  cases hf:meF el (s.1.getD a bdD) (s.1.getD c bdD)
  ·rw [hf] at hs; cases hs
  ·rw [hf,cond_true] at hs; cases hs
   unfold meF at hf
   rw [Bool.and_eq_true] at hf
   obtain ⟨oa,oc⟩:=meB_in hm
   have ka:=h.kp a
   have kc:=h.kp c
   refine (h.set hf.1 ⟨ka.n1,ka.n2,ka.o,fun e=>?_⟩).set hf.2 ⟨kc.n1,kc.n2,kc.o,fun e=>?_⟩
   ·have e':(s.1.getD a bdD).o=true:=e
    rw [oa] at e'; cases e'
   ·have e':(s.1.getD c bdD).o=true:=e
    rw [oc] at e'; cases e'
theorem rns_keep {t el:Int} (I:List BdI→Prop) (n:Nat) (hl:∀ S,I S→S.length=n) (hp:∀ a c (s s':PsI),a < c→c < n→I s.1→pcP t el a c s=some s'→I s'.1):∀ (m:Nat) {s s':PsI},I s.1→rnsP t el m s=some s'→I s'.1
 | 0,s,s',hs,h=>by cases h; exact hs
 | m + 1,s,s',hs,h=>by
   rw [rnsP] at h
   cases hr:rdP t el s with
   | none=>rw [hr] at h; cases h
   | some s1=>
     rw [hr] at h
     simp only at h
     have hv:I s1.1:=by
      unfold rdP at hr
      rw [hl _ hs] at hr
      refine foldO_inv (step:=rwP t el n) (inv:=fun _ s=>I s.1) (n:=n) (fun a u u' ha hu hst=>?_) n 0 (s.1,s.2.1,false) s1 (by omega) hs hr
      unfold rwP at hst
      exact (foldO_inv (step:=pcP t el a) (inv:=fun c (s:PsI)=>a < c∧I s.1) (n:=n) (fun c v v' hc hv hst=>⟨by omega,hp a c v v' hv.1 hc hv.2 hst⟩) (n - (a + 1)) (a + 1) u u' (by omega) ⟨by omega,hu⟩ hst).2
     cases hm:s1.2.2
     ·rw [hm] at h; cases h; exact hv
     ·rw [hm] at h; exact rns_keep I n hl hp m hv h
theorem tk_keep {sl bd:Int→Int→Int} {st:Nat→Int} {t el:Int} {l S':List BdI} {H:List HtI} (I:List BdI→Prop) (hl:∀ S,I S→S.length=l.length) (h0:I l) (hg:∀ i S S',i < l.length→I S→glP sl bd st i S=some S'→I S')
 (hp:∀ a c (s s':PsI),a < c→c < l.length→I s.1→pcP t el a c s=some s'→I s'.1) (h:tkP sl bd st t el l=some (S',H)):∃ S2,I S2∧S'=S2.map gnB:=by
 unfold tkP glL at h
 cases h1:foldO (glP sl bd st) l.length 0 l with
 | none=>rw [h1] at h; cases h
 | some S1=>
   rw [h1] at h
   simp only at h
   have i1:I S1:=foldO_inv (step:=glP sl bd st) (inv:=fun _ S=>I S) (n:=l.length) (fun i t t' hin hv hs=>hg i t t' hin hv hs) l.length 0 l S1 (by omega) h0 h1
   cases h2:rnsP t el 8 (S1,[],true) with
   | none=>rw [h2] at h; cases h
   | some s=>
     rw [h2] at h
     simp only [Option.some.injEq,Prod.mk.injEq] at h
     exact ⟨s.1,rns_keep I l.length hl hp 8 (s:=(S1,[],true)) i1 h2,h.1.symm⟩
theorem gn_ok {b:BdI} (hb:bdOk b=true):bdOk (gnB b)=true:=by
 unfold gnB
 cases (!b.o&&gonB b.x b.y)
 ·exact hb
 ·obtain ⟨h1,h2,a,c,d,e,f⟩:=bdOk_in hb
  exact bod_is.2 ⟨h1,h2,a,c,(by decide:(-65536000:Int)≤0∧(0:Int)≤65536000),(by decide:(-65536000:Int)≤0∧(0:Int)≤65536000),(by decide:(-1000:Int)≤0∧(0:Int)≤1000)⟩
theorem gn_D:gnB bdD=bdD:=by rfl
theorem getD_gn (S:List BdI) (i:Nat):(S.map gnB).getD i bdD=gnB (S.getD i bdD):=by
 rw [List.getD_eq_getElem?_getD,List.getD_eq_getElem?_getD,List.getElem?_map]
 cases S[i]? with
 | none=>exact gn_D.symm
 | some b=>rfl
theorem sce_iff {l:List BdI}:sceB l=true↔l.length≤16∧(∀ i < l.length,bdOk (l.getD i bdD)=true∧((l.getD i bdD).o=true→(l.getD i bdD).u=0∧(l.getD i bdD).v=0∧(l.getD i bdD).s=0)∧∀ k < i,¬ ((l.getD k bdD).1=(l.getD i bdD).1∧(l.getD k bdD).2.1=(l.getD i bdD).2.1)):=by
 rw [sce_badR,Bool.and_eq_true,decide_eq_true_eq,Bool.not_eq_true',List.any_eq_false]
 refine and_congr Iff.rfl ⟨fun h i hi=>?_,fun h i hi=>?_⟩
 ·have hb:=h i (List.mem_range.2 hi)
  unfold badR at hb
  simp only [Bool.or_eq_true,not_or,Bool.not_eq_true',Bool.not_eq_false,Bool.and_eq_true,not_and,bne_iff_ne,ne_eq,Classical.not_not,Bool.not_eq_true,List.any_eq_false,List.mem_range] at hb
  refine ⟨by simpa using hb.1,fun ho=>?_,fun k hk=>?_⟩
  ·have h2:=hb.2.1 ho
   simp at h2
   exact ⟨h2.1.1,h2.1.2,h2.2⟩
  ·have h3:=hb.2.2 k hk
   unfold nmB at h3
   simpa using h3
 ·have hb:=h i (List.mem_range.1 hi)
  unfold badR
  simp only [Bool.or_eq_true,not_or,Bool.not_eq_true',Bool.not_eq_false,Bool.and_eq_true,not_and,bne_iff_ne,ne_eq,Classical.not_not,Bool.not_eq_true,List.any_eq_false,List.mem_range]
  refine ⟨by simpa using hb.1,fun ho=>?_,fun k hk=>?_⟩
  ·obtain ⟨u,v,s⟩:=hb.2.1 ho
   rw [u,v,s]; simp
  ·have h3:=hb.2.2 k hk
   unfold nmB
   simpa using h3
theorem kp_refl {l:List BdI} (h:sceB l=true):KpS l l:=⟨rfl,okS_of h,fun i=>⟨rfl,rfl,rfl,fun ho=>by
 rcases Nat.lt_or_ge i l.length with hi | hi
 ·exact ((sce_iff.1 h).2 i hi).2.1 ho
 ·rw [List.getD_eq_getElem?_getD,List.getElem?_eq_none hi] at ho; cases ho⟩⟩
theorem tk_valid {sl bd:Int→Int→Int} {st:Nat→Int} {t el:Int} {l S':List BdI} {H:List HtI} (hl:sceB l=true) (h:tkP sl bd st t el l=some (S',H)):sceB S'=true∧S'.length=l.length:=by
 obtain ⟨S2,k,rfl⟩:=tk_keep (KpS l) (fun S k=>k.len) (kp_refl hl) (fun i S S' _ k hs=>k.glide hs) (fun a c s s' _ _ k hs=>k.pair hs) h
 have h0:=sce_iff.1 hl
 have hlen:(S2.map gnB).length=l.length:=by rw [List.length_map]; exact k.len
 refine ⟨sce_iff.2 ⟨by rw [hlen]; exact h0.1,fun i hi=>?_⟩,hlen⟩
 rw [hlen] at hi
 have nm:∀ j,((S2.map gnB).getD j bdD).1=(l.getD j bdD).1∧((S2.map gnB).getD j bdD).2.1=(l.getD j bdD).2.1:=fun j=>by
  rw [getD_gn]
  have kj:=k.kp j
  unfold gnB
  cases (!(S2.getD j bdD).o&&gonB (S2.getD j bdD).x (S2.getD j bdD).y)
  ·exact ⟨kj.n1,kj.n2⟩
  ·exact ⟨kj.n1,kj.n2⟩
 refine ⟨?_,fun ho=>?_,fun q hq=>?_⟩
 ·rw [getD_gn]; exact gn_ok (k.ok i)
 ·rw [getD_gn] at ho ⊢
  have ki:=(k.kp i).rest
  unfold gnB at ho ⊢
  cases hc:(!(S2.getD i bdD).o&&gonB (S2.getD i bdD).x (S2.getD i bdD).y)
  ·rw [hc] at ho; exact ki ho
  ·exact ⟨rfl,rfl,rfl⟩
 ·rw [(nm q).1,(nm q).2,(nm i).1,(nm i).2]
  exact (h0.2 i hi).2.2 q hq
/-! Without brakes. -/
theorem smU_set {S:List BdI} {a:Nat} {A:BdI} (ha:a < S.length):∀ n,smU (S.set a A) n=smU S n + (if a < n then A.u - (S.getD a bdD).u else 0)
 | 0=>by simp [smU]
 | n + 1=>by
   rw [smU,smU,smU_set ha n,getD_set]
   by_cases h:a=n
   ·subst h
    rw [if_neg (Nat.lt_irrefl a),if_pos (show a=a∧a < S.length from ⟨rfl,ha⟩),if_pos (Nat.lt_succ_self a)]; omega
   ·rw [if_neg (show ¬ (a=n∧a < S.length) from fun c=>h c.1)]
    by_cases h2:a < n
    ·rw [if_pos h2,if_pos (show a < n + 1 by omega)]; omega
    ·rw [if_neg h2,if_neg (show ¬ a < n + 1 by omega)]; omega
theorem smV_set {S:List BdI} {a:Nat} {A:BdI} (ha:a < S.length):∀ n,smV (S.set a A) n=smV S n + (if a < n then A.v - (S.getD a bdD).v else 0)
 | 0=>by simp [smV]
 | n + 1=>by
   rw [smV,smV,smV_set ha n,getD_set]
   by_cases h:a=n
   ·subst h
    rw [if_neg (Nat.lt_irrefl a),if_pos (show a=a∧a < S.length from ⟨rfl,ha⟩),if_pos (Nat.lt_succ_self a)]; omega
   ·rw [if_neg (show ¬ (a=n∧a < S.length) from fun c=>h c.1)]
    by_cases h2:a < n
    ·rw [if_pos h2,if_pos (show a < n + 1 by omega)]; omega
    ·rw [if_neg h2,if_neg (show ¬ a < n + 1 by omega)]; omega
theorem tkB_0:tkB 0 0=0:=by decide
theorem cutP_0r (a:Int):cutP a 0=0:=by
 unfold cutP ab
 simp [sg]
theorem cutP_0l (a:Int):cutP 0 a=0:=by
 unfold cutP ab
 simp [sg]
theorem free_step {bd x y u v s:Int} (hu:-65536000≤u∧u≤65536000) (hv:-65536000≤v∧v≤65536000) (hr:(u==0&&(v==0&&true))=false) {s':St5} (h:gnS 0 bd (x,y,u,v,s) 0=some s'):s'.2.2.1=u∧s'.2.2.2.1=v:=by
 have hlen:¬ lenV u v 1≤0:=fun hle=>by
  obtain ⟨_,e,_,_⟩:=len_down hu hv
  have hs:0≤sq2 u v:=by unfold sq2; have:=mul_in ⟨ab_nn u,ab_le.2 hu⟩ ⟨ab_nn u,ab_le.2 hu⟩; have:=mul_in ⟨ab_nn v,ab_le.2 hv⟩ ⟨ab_nn v,ab_le.2 hv⟩; omega
  have hs2:sq2 u v≤8589934592000000:=by unfold sq2; have:=mul_in ⟨ab_nn u,ab_le.2 hu⟩ ⟨ab_nn u,ab_le.2 hu⟩; have:=mul_in ⟨ab_nn v,ab_le.2 hv⟩ ⟨ab_nn v,ab_le.2 hv⟩; omega
  obtain ⟨r0,r1,r2,_⟩:=rt_spec hs (by omega)
  have r3:rt (sq2 u v)=0:=by rw [e] at hle; omega
  rw [r3] at r2
  have z:sq2 u v=0:=by omega
  unfold sq2 at z
  have a1:=Int.mul_nonneg (ab_nn u) (ab_nn u)
  have a2:=Int.mul_nonneg (ab_nn v) (ab_nn v)
  have zu:ab u * ab u=0:=by omega
  have zv:ab v * ab v=0:=by omega
  have zu':ab u=0:=by rcases Int.mul_eq_zero.1 zu with h | h<;>exact h
  have zv':ab v=0:=by rcases Int.mul_eq_zero.1 zv with h | h<;>exact h
  have u0:u=0:=by have:=ab_le.1 (show ab u≤0 by omega); omega
  have v0:v=0:=by have:=ab_le.1 (show ab v≤0 by omega); omega
  rw [u0,v0] at hr
  cases hr
 unfold gnS tkStep at h
 have hR:tkR 0 u v 0=false:=by unfold tkR; rw [tkB_0]; exact decide_eq_false hlen
 rw [show tkR 0 (x,y,u,v,s).2.2.1 (x,y,u,v,s).2.2.2.1 0=false from hR,cond_false] at h
 have hX:tkVX 0 bd u v s 0=u:=by unfold tkVX; rw [tkB_0,cutP_0r,cutP_0l,cutP_0r]; omega
 have hY:tkVY 0 bd u v s 0=v:=by unfold tkVY; rw [tkB_0,cutP_0r,cutP_0l,cutP_0r]; omega
 cases hM:tkM 0 bd (x,y,u,v,s).1 (x,y,u,v,s).2.1 (x,y,u,v,s).2.2.1 (x,y,u,v,s).2.2.2.1 (x,y,u,v,s).2.2.2.2 0
 ·rw [hM] at h; cases h
 ·rw [hM,cond_true] at h
  cases h
  exact ⟨hX,hY⟩
structure SmS (l S:List BdI):Prop where
 len:S.length=l.length
 ok:okS S
 su:smU S l.length=smU l l.length
 sv:smV S l.length=smV l l.length
theorem SmS.glide {l S S':List BdI} {sl bd:Int→Int→Int} {st:Nat→Int} {i:Nat} (hi:i < l.length) (h0:∀ x y,plcB x y=true→sl x y=0) (hst:st i=0) (h:SmS l S) (hs:glP sl bd st i S=some S'):SmS l S':=by
 have hv:=glP_inv (n:=l.length) ⟨h.len,h.ok⟩ hs
 unfold glP at hs
 have hb:=bdOk_in (h.ok i)
 cases hg:glB sl bd (st i) (S.getD i bdD) with
 | none=>rw [hg] at hs; cases hs
 | some b=>
   rw [hg] at hs
   cases hs
   have key:b.u=(S.getD i bdD).u∧b.v=(S.getD i bdD).v:=by
    unfold glB at hg
    cases ho:(S.getD i bdD).o
    ·rw [ho,cond_false] at hg
     cases hr:rstB (S.getD i bdD)
     ·rw [hr,cond_false,hst,h0 _ _ (mov_plc (bd_mov (h.ok i)))] at hg
      cases hgn:gnS 0 (bd (S.getD i bdD).x (S.getD i bdD).y) ((S.getD i bdD).x,(S.getD i bdD).y,(S.getD i bdD).u,(S.getD i bdD).v,(S.getD i bdD).s) 0 with
      | none=>rw [hgn] at hg; cases hg
      | some s=>
        rw [hgn] at hg
        cases hg
        exact free_step hb.2.2.2.2.1 hb.2.2.2.2.2.1 hr hgn
     ·rw [hr,cond_true] at hg; cases hg; exact ⟨rfl,rfl⟩
    ·rw [ho,cond_true] at hg; cases hg; exact ⟨rfl,rfl⟩
   have hin:i < S.length:=by rw [h.len]; exact hi
   refine ⟨hv.1,hv.2,?_,?_⟩
   ·rw [smU_set hin,key.1,h.su]; split<;>omega
   ·rw [smV_set hin,key.2,h.sv]; split<;>omega
theorem SmS.pair {l:List BdI} {t el:Int} {a c:Nat} (hac:a < c) (hc:c < l.length) {s s':PsI} (h:SmS l s.1) (hs:pcP t el a c s=some s'):SmS l s'.1:=by
 have hv:=pc_inv (n:=l.length) (H:=s.2.1.length) ⟨h.len,h.ok,Nat.le_refl _⟩ hs
 rcases pc_cases hs with rfl | ⟨_,_,rfl⟩
 ·exact h
 ·have ha:a < s.1.length:=by rw [h.len]; omega
  have hc':c < (s.1.set a (meA el (s.1.getD a bdD) (s.1.getD c bdD))).length:=by rw [List.length_set,h.len]; exact hc
  have e:(s.1.set a (meA el (s.1.getD a bdD) (s.1.getD c bdD))).getD c bdD=s.1.getD c bdD:=by rw [getD_set,if_neg (fun x=>by omega)]
  have hal:a < l.length:=by omega
  refine ⟨hv.len,hv.ok,?_,?_⟩
  ·show smU ((s.1.set a _).set c _) l.length=_
   rw [smU_set hc',smU_set ha,e,h.su,if_pos hal,if_pos hc]
   show smU l l.length + ((s.1.getD a bdD).u - mePx el (s.1.getD a bdD) (s.1.getD c bdD) - (s.1.getD a bdD).u) + ((s.1.getD c bdD).u + mePx el (s.1.getD a bdD) (s.1.getD c bdD) - (s.1.getD c bdD).u)=_
   omega
  ·show smV ((s.1.set a _).set c _) l.length=_
   rw [smV_set hc',smV_set ha,e,h.sv,if_pos hal,if_pos hc]
   show smV l l.length + ((s.1.getD a bdD).v - mePy el (s.1.getD a bdD) (s.1.getD c bdD) - (s.1.getD a bdD).v) + ((s.1.getD c bdD).v + mePy el (s.1.getD a bdD) (s.1.getD c bdD) - (s.1.getD c bdD).v)=_
   omega
abbrev ShO:=Int ⊕ (List BdI × Int × List HtI)
noncomputable def shP (tk:Int→List BdI→Option (List BdI × List HtI)):Nat→Int→List BdI→List HtI→ShO
 | 0,t,S,hs=>.inr (S,t,hs)
 | n + 1,t,S,hs=>bif S.any mvg then
     match tk t S with
     | none=>.inl 4
     | some p=>bif decide ((hs++p.2).length≤4096) then shP tk n (t + 1) p.1 (hs++p.2) else .inl 3
   else .inr (S,t,hs)
theorem rns_invB {t el:Int} {n:Nat} (hn:n≤16):∀ (m H:Nat) {s s':PsI},PsIs n H s→rnsP t el m s=some s'→∃ H',H'≤H + m * 256∧PsIs n H' s'
 | 0,H,s,s',hs,h=>by cases h; exact ⟨H,by omega,hs⟩
 | m + 1,H,s,s',hs,h=>by
   rw [rnsP] at h
   have h16:n * n≤256:=Nat.mul_le_mul hn hn
   cases hr:rdP t el s with
   | none=>rw [hr] at h; cases h
   | some s1=>
     rw [hr] at h
     simp only at h
     have hv:=rd_inv hs hr
     cases hm:s1.2.2
     ·rw [hm] at h; cases h; exact ⟨_,by omega,hv⟩
     ·rw [hm] at h
      obtain ⟨H',h1,h2⟩:=rns_invB hn m _ hv h
      exact ⟨H',by omega,h2⟩
theorem tk_hits {sl bd:Int→Int→Int} {st:Nat→Int} {t el:Int} {l:List BdI} {p:List BdI × List HtI} (hs:sceB l=true) (h:tkP sl bd st t el l=some p):p.2.length≤2048:=by
 have hl:=scn_len hs
 have ok:=okS_of hs
 unfold tkP at h
 cases h1:glL sl bd st l with
 | none=>rw [h1] at h; cases h
 | some S1=>
   have hv:S1.length=l.length∧okS S1:=foldO_inv (step:=glP sl bd st) (inv:=fun _ S=>S.length=l.length∧okS S) (n:=l.length) (fun i t t' hin hv hs=>glP_inv hv hs) l.length 0 l S1 (by omega) ⟨rfl,ok⟩ h1
   rw [h1] at h
   simp only at h
   cases h2:rnsP t el 8 (S1,[],true) with
   | none=>rw [h2] at h; cases h
   | some s'=>
     rw [h2] at h
     cases h
     obtain ⟨H',hb,hv'⟩:=rns_invB (n:=S1.length) (by omega) 8 0 (s:=(S1,[],true)) ⟨rfl,hv.2,Nat.zero_le _⟩ h2
     have:=hv'.hits
     show s'.2.1.length≤2048
     omega
section
variable {α:Type} (cx cy sd w h:Int) (pb po:List Int) (fl ke sw be we:Int) (b:List BrI) (wh el:Int)
theorem stkC_fin (hi:iceB cx cy sd w h pb po=true) (hg:graB fl ke sw be we=true) (hb:brsB b=true) (he:0≤el∧el≤1000) {l:List BdI} (hs:sceB l=true) {t:Int} (ht:tckB t=true) (R:Option α) (K:List Bd1→List HtI→Option α) {N:Nat} (hN:30≤N) :
 stkC cx cy sd w h pb po fl ke sw be we b wh el t N (l.map w1) R K=match tkP (slwV cx cy sd w h pb po fl ke sw be we) (bdvV cx cy sd w h pb po fl ke sw be we) (stP wh b t) t el l with | some p=>K (p.1.map w1) p.2 | none=>R:=by
 have hl:=scn_len hs
 have ok:=okS_of hs
 unfold stkC tkP
 rw [List.length_map]
 refine (gd_loop cx cy sd w h pb po fl ke sw be we b wh t hi hg hb ht R ok hl _ (by omega)).trans ?_
 cases h1:glL (slwV cx cy sd w h pb po fl ke sw be we) (bdvV cx cy sd w h pb po fl ke sw be we) (stP wh b t) l with
 | none=>rfl
 | some S1=>
   have hv:S1.length=l.length∧okS S1:=foldO_inv (step:=glP (slwV cx cy sd w h pb po fl ke sw be we) (bdvV cx cy sd w h pb po fl ke sw be we) (stP wh b t)) (inv:=fun _ S=>S.length=l.length∧okS S) (n:=l.length) (fun i t t' hin hv hs=>glP_inv hv hs) l.length 0 l S1 (by omega) ⟨rfl,ok⟩ h1
   refine (crs_loop R he (n:=S1.length) (by omega) _ (S1.map w1,0,cx,cy,sd,w,h,pb,po,fl,ke,sw,be,we,b,wh,el,t,[],()) ⟨rfl,rfl⟩ (fun j S hh=>rfl) 8 0 0 (S1,[],true) N (by omega) (by omega) ⟨rfl,hv.2,Nat.zero_le _⟩ N (by omega) (by omega)).trans ?_
   simp only
   cases h2:rnsP t el 8 (S1,[],true) with
   | none=>rfl
   | some s'=>
     obtain ⟨H',hv'⟩:=rns_inv (n:=S1.length) (by omega) 8 0 (s:=(S1,[],true)) ⟨rfl,hv.2,Nat.zero_le _⟩ h2
     show afterL (iterL N (goF ((s'.1.map w1).length:Int)) (s'.1.map w1,0,())) _=_
     rw [List.length_map]
     exact go_loop hv'.ok (by rw [hv'.len]; omega) _ (by rw [hv'.len]; omega)
theorem f1w1 (l:List BdI):(l.map w1).map f1=l:=by
 rw [List.map_map,show (f1 ∘ w1:BdI→BdI)=id from rfl,List.map_id]
noncomputable abbrev tkV5 (t:Int) (S:List BdI):Option (List BdI × List HtI):=tkP (slwV cx cy sd w h pb po fl ke sw be we) (bdvV cx cy sd w h pb po fl ke sw be we) (stP wh b t) t el S
theorem shot_loop (hi:iceB cx cy sd w h pb po=true) (hg:graB fl ke sw be we=true) (hb:brsB b=true) (he:0≤el∧el≤1000) {m:Int} (hm:m≤6000) (k:AOut→Option α) (K:Nat→StS→Option α) {N:Nat} (hN:30≤N) :
 ∀ (n:Nat) (t:Int) (S:List BdI) (hs:List HtI) (M:Nat),0≤t→t + n=m→sceB S=true→hs.length≤4096→n < M →
   afterL (iterL M (shF cx cy sd w h pb po fl ke sw be we b wh el N m k) (S.map w1,t,t,hs,())) K=match shP (tkV5 cx cy sd w h pb po fl ke sw be we b wh el) n t S hs with | .inl e=>k (shE e) | .inr p=>K 0 (p.1.map w1,p.2.1,p.2.1,p.2.2,())
 | 0,t,S,hs,M,h0,ht,hS,hh,hM=>by
   obtain ⟨M,rfl⟩:∃ q,M=q + 1:=⟨M - 1,by omega⟩
   have e:shF cx cy sd w h pb po fl ke sw be we b wh el N m k (S.map w1,t,t,hs,())=some (.brk 0 (S.map w1,t,t,hs,())):=by
    unfold shF
    rw [show decide (t < m)=false from decide_eq_false (by omega),cond_false]
   rw [iterL,e]
   rfl
 | n + 1,t,S,hs,M,h0,ht,hS,hh,hM=>by
   obtain ⟨M,rfl⟩:∃ q,M=q + 1:=⟨M - 1,by omega⟩
   have hl:=scn_len hS
   have e:shF cx cy sd w h pb po fl ke sw be we b wh el N m k (S.map w1,t,t,hs,())=bif S.any mvg then (match tkV5 cx cy sd w h pb po fl ke sw be we b wh el t S with | none=>finL (k (shE 4)) | some p=>bif decide ((hs++p.2).length≤4096) then some (.cont (p.1.map w1,t + 1,t + 1,hs++p.2,())) else finL (k (shE 3))) else some (.brk 0 (S.map w1,t,t,hs,())):=by
    unfold shF
    rw [show decide (t < m)=true from decide_eq_true (by omega),cond_true,show decide ((S.map w1).length≤20)=true from decide_eq_true (by rw [List.length_map]; omega),cond_true,f1w1,Bool.not_not]
    cases S.any mvg
    ·rfl
    ·simp only [cond_true]
     refine (stkC_fin cx cy sd w h pb po fl ke sw be we b wh el hi hg hb he hS (t:=t) (by unfold tckB; simp; omega) _ _ hN).trans ?_
     show (match tkV5 cx cy sd w h pb po fl ke sw be we b wh el t S with | some p=>_ | none=>_)=_
     cases hp:tkV5 cx cy sd w h pb po fl ke sw be we b wh el t S with
     | none=>rfl
     | some p=>
       have hk:=tk_hits hS hp
       have hroom:room ≥ 1000000:=by decide
       simp only
       rw [if_pos (by omega),i64_in (t + 1) (by omega)]
       cases hc:decide ((hs++p.2).length≤4096)
       ·have:=of_decide_eq_false hc
        rw [show decide (((hs++p.2).length:Int) > 4096)=true from decide_eq_true (by omega)]
        rfl
       ·have:=of_decide_eq_true hc
        rw [show decide (((hs++p.2).length:Int) > 4096)=false from decide_eq_false (by omega)]
        rfl
   rw [iterL,e,shP]
   cases S.any mvg
   ·rfl
   ·simp only [cond_true]
    cases hp:tkV5 cx cy sd w h pb po fl ke sw be we b wh el t S with
    | none=>
      show _=k (shE 4)
      simp only
      generalize k (shE 4)=R
      cases R<;>rfl
    | some p=>
      simp only
      cases hc:decide ((hs++p.2).length≤4096)
      ·simp only [cond_false]
       show _=k (shE 3)
       generalize k (shE 3)=R
       cases R<;>rfl
      ·simp only [cond_true]
       have hv:=tk_valid (S':=p.1) (H:=p.2) hS hp
       exact shot_loop hi hg hb he hm k K hN n (t + 1) p.1 (hs++p.2) M (by omega) (by omega) hv.1 (of_decide_eq_true hc) (by omega)
theorem sh_valid:∀ (n:Nat) (t:Int) (S:List BdI) (hs:List HtI) {p},sceB S=true→shP (tkV5 cx cy sd w h pb po fl ke sw be we b wh el) n t S hs=.inr p→sceB p.1=true∧p.1.length=S.length
 | 0,t,S,hs,p,hS,e=>by cases e; exact ⟨hS,rfl⟩
 | n + 1,t,S,hs,p,hS,e=>by
   rw [shP] at e
   cases ha:S.any mvg
   ·rw [ha] at e; cases e; exact ⟨hS,rfl⟩
   ·rw [ha,cond_true] at e
    cases hp:tkV5 cx cy sd w h pb po fl ke sw be we b wh el t S with
    | none=>rw [hp] at e; cases e
    | some q=>
      rw [hp] at e
      simp only at e
      cases hc:decide ((hs++q.2).length≤4096)
      ·rw [hc] at e; cases e
      ·rw [hc,cond_true] at e
       have hv:=tk_valid (S':=q.1) (H:=q.2) hS hp
       have:=sh_valid n (t + 1) q.1 (hs++q.2) hv.1 e
       exact ⟨this.1,this.2.trans hv.2⟩
abbrev shG (p:List BdI × Int × List HtI):AOut:=.ret (.tup [.ro bdyS p.1,.int .i64 p.2.1,.ro hitS p.2.2,.int .i64 0])
theorem shotT_fin (hi:iceB cx cy sd w h pb po=true) (hg:graB fl ke sw be we=true) (hb:brsB b=true) (he:0≤el∧el≤1000) {l:List BdI} (hs:sceB l=true) {t:Int} (ht:0≤t∧t≤6000) (k:AOut→Option α) :
 shotT cx cy sd w h pb po fl ke sw be we b wh el t (t.toNat + 30) l k=match shP (tkV5 cx cy sd w h pb po fl ke sw be we b wh el) t.toNat 0 l [] with | .inl e=>k (shE e) | .inr p=>k (shG p):=by
 have hl:=scn_len hs
 unfold shotT
 refine (cs_loopN (by omega) _ (by omega)).trans ?_
 rw [if_pos rfl]
 refine (shot_loop cx cy sd w h pb po fl ke sw be we b wh el hi hg hb he (m:=t) ht.2 k _ (by omega) t.toNat 0 l [] (t.toNat + 30) (by omega) (by omega) hs (by simp) (by omega)).trans ?_
 cases hp:shP (tkV5 cx cy sd w h pb po fl ke sw be we b wh el) t.toNat 0 l [] with
 | inl e=>rfl
 | inr p=>
   have hv:=sh_valid cx cy sd w h pb po fl ke sw be we b wh el t.toNat 0 l [] hs hp
   simp only
   rw [if_pos trivial,show shortB (p.1.map w1)=true from decide_eq_true (by rw [List.length_map,hv.2]; omega),cond_true]
   exact congrArg (fun q:List BdI=>k (.ret (.tup [.ro bdyS q,.int .i64 p.2.1,.ro hitS p.2.2,.int .i64 0]))) (f1w1 p.1)
end
def cshB (cx cy sd w h:Int) (pb po:List Int) (fl ke sw be we:Int) (l:List BdI) (b:List BrI) (wh el t:Int):Bool:=ctkB cx cy sd w h pb po fl ke sw be we l b wh el t
def cshR (c:Bool) (o:ShO):AOut:=bif c then (match o with | .inr p=>shG p | .inl e=>shE e) else shE 2
theorem cshot_fin (cx cy sd w h:Int) (pb po:List Int) (fl ke sw be we:Int) (l:List BdI) (b:List BrI) (wh el t:Int) (hs:∀ qSm∈([.agg [.int .i64 cx,.int .i64 cy,.int .i64 sd,.int .i64 w,.int .i64 h,.ro (.int .i64) pb,.ro (.int .i64) po],.agg [.int .i64 fl,.int .i64 ke,.int .i64 sw,.int .i64 be,.int .i64 we],.ro (.recd (.cons (.int .i64) (.cons (.int .i64) (.cons (.recd (.cons (.recd (.cons (.int .i64) (.cons (.int .i64) .nil))) (.cons (.recd (.cons (.int .i64) (.cons (.int .i64) .nil))) (.cons (.int .i64) .nil)))) (.cons .bool .nil))))) l,.ro (.recd (.cons (.int .i64) (.cons (.int .i64) (.cons (.int .i64) .nil)))) b,.int .i64 wh,.int .i64 el,.int .i64 t]:List AVal),Sm qSm):∃ N n,∀ α (k:AOut→Option α),evFn real tab ((twX fsC4 spG).env real tab N n) N Tryz.f8 α [.agg [.int .i64 cx,.int .i64 cy,.int .i64 sd,.int .i64 w,.int .i64 h,.ro (.int .i64) pb,.ro (.int .i64) po],.agg [.int .i64 fl,.int .i64 ke,.int .i64 sw,.int .i64 be,.int .i64 we],.ro (.recd (.cons (.int .i64) (.cons (.int .i64) (.cons (.recd (.cons (.recd (.cons (.int .i64) (.cons (.int .i64) .nil))) (.cons (.recd (.cons (.int .i64) (.cons (.int .i64) .nil))) (.cons (.int .i64) .nil)))) (.cons .bool .nil))))) l,.ro (.recd (.cons (.int .i64) (.cons (.int .i64) (.cons (.int .i64) .nil)))) b,.int .i64 wh,.int .i64 el,.int .i64 t] k=k (cshR (cshB cx cy sd w h pb po fl ke sw be we l b wh el t) (shP (tkV5 cx cy sd w h pb po fl ke sw be we b wh el) t.toNat 0 l [])):=by
 refine ⟨t.toNat + 30,14,fun α k=>(cshot_text (t.toNat + 30) 0 α cx cy sd w h pb po fl ke sw be we l b wh el t k).trans ?_⟩
 unfold cshB ctkB cshR
 cases hi:iceB cx cy sd w h pb po
 ·rfl
 cases hg:graB fl ke sw be we
 ·rfl
 cases hs:sceB l
 ·unfold sceE; rw [hs]; rfl
 cases hb:brsB b
 ·unfold sceE; rw [hs]; rfl
 have hl:=scn_len hs
 have ew:IntKind.i64.wrap ((l.length:Int) - 1)=(l.length:Int) - 1:=i64_in _ (by omega)
 unfold sceE
 rw [hs,ew]
 unfold tckB
 cases h1:decide (-1≤wh)
 ·rfl
 cases h2:decide (wh≤(l.length:Int) - 1)
 ·rfl
 cases h3:decide (0≤el)
 ·rfl
 cases h4:decide (el≤1000)
 ·rfl
 cases h5:decide (0≤t)
 ·rfl
 cases h6:decide (t≤6000)
 ·rfl
 refine (shotT_fin cx cy sd w h pb po fl ke sw be we b wh el hi hg hb ⟨of_decide_eq_true h3,of_decide_eq_true h4⟩ hs ⟨of_decide_eq_true h5,of_decide_eq_true h6⟩ k).trans ?_
 show _=k (match shP (tkV5 cx cy sd w h pb po fl ke sw be we b wh el) t.toNat 0 l [] with | .inr p=>shG p | .inl e=>shE e)
 cases shP (tkV5 cx cy sd w h pb po fl ke sw be we b wh el) t.toNat 0 l []<;>rfl
noncomputable def cshotS:Fsp:=fun _ args k=>match args with
 | [.agg [.int .i64 cx,.int .i64 cy,.int .i64 sd,.int .i64 w,.int .i64 h,.ro (.int .i64) pb,.ro (.int .i64) po],.agg [.int .i64 fl,.int .i64 ke,.int .i64 sw,.int .i64 be,.int .i64 we],.ro (.recd (.cons (.int .i64) (.cons (.int .i64) (.cons (.recd (.cons (.recd (.cons (.int .i64) (.cons (.int .i64) .nil))) (.cons (.recd (.cons (.int .i64) (.cons (.int .i64) .nil))) (.cons (.int .i64) .nil)))) (.cons .bool .nil))))) l,.ro (.recd (.cons (.int .i64) (.cons (.int .i64) (.cons (.int .i64) .nil)))) b,.int .i64 wh,.int .i64 el,.int .i64 t]=>k (cshR (cshB cx cy sd w h pb po fl ke sw be we l b wh el t) (shP (tkV5 cx cy sd w h pb po fl ke sw be we b wh el) t.toNat 0 l []))
 | _=>none
theorem cshotS_ok:FspOk Tryz.prog 8 cshotS:=tower_X fsC4_ok spG_ok ⟨Tryz.func8,fun _ _=>by kernel_rfl⟩ (by intro α args k; unfold cshotS; split<;>rfl) fun args out hSm hEq=>by
 unfold cshotS at hEq
 split at hEq
 ·rename_i cx cy sd w h pb po fl ke sw be we l b wh el t
  obtain ⟨N,n,e⟩:=cshot_fin cx cy sd w h pb po fl ke sw be we l b wh el t hSm
  exact ⟨N,n,(e AOut some).trans hEq⟩
 ·cases hEq
/-! The same without cases. -/
def cshL (c:Bool) (o:ShO):List BdI:=bif c then (match o with | .inr p=>p.1 | .inl _=>[]) else []
def cshT (c:Bool) (o:ShO):Int:=bif c then (match o with | .inr p=>p.2.1 | .inl _=>0) else 0
def cshH (c:Bool) (o:ShO):List HtI:=bif c then (match o with | .inr p=>p.2.2 | .inl _=>[]) else []
def cshZ (c:Bool) (o:ShO):Int:=bif c then (match o with | .inr _=>0 | .inl e=>e) else 2
abbrev cshV (c:Bool) (o:ShO):AOut:=.ret (.tup [.ro (.recd (.cons (.int .i64) (.cons (.int .i64) (.cons (.recd (.cons (.recd (.cons (.int .i64) (.cons (.int .i64) .nil))) (.cons (.recd (.cons (.int .i64) (.cons (.int .i64) .nil))) (.cons (.int .i64) .nil)))) (.cons .bool .nil))))) (cshL c o),iN (cshT c o),.ro (.recd (.cons (.int .i64) (.cons (.int .i64) (.cons (.int .i64) .nil)))) (cshH c o),iN (cshZ c o)])
theorem csh_tot (c:Bool) (o:ShO):∃ v v',cshV c o=.ret v'∧cshR c o=.ret v∧SimV v v':=by
 cases c
 ·exact ⟨_,_,rfl,rfl,simV_tup ⟨SimV.refl _,SimV.refl _,simV_nils _,SimV.refl _,trivial⟩⟩
 ·cases o with
  | inl e=>exact ⟨_,_,rfl,rfl,simV_tup ⟨SimV.refl _,SimV.refl _,simV_nils _,SimV.refl _,trivial⟩⟩
  | inr p=>exact ⟨_,_,rfl,rfl,SimV.refl _⟩
noncomputable def cshotTS:Fsp:=fun _ args k=>match args with
 | [.agg [.int .i64 cx,.int .i64 cy,.int .i64 sd,.int .i64 w,.int .i64 h,.ro (.int .i64) pb,.ro (.int .i64) po],.agg [.int .i64 fl,.int .i64 ke,.int .i64 sw,.int .i64 be,.int .i64 we],.ro (.recd (.cons (.int .i64) (.cons (.int .i64) (.cons (.recd (.cons (.recd (.cons (.int .i64) (.cons (.int .i64) .nil))) (.cons (.recd (.cons (.int .i64) (.cons (.int .i64) .nil))) (.cons (.int .i64) .nil)))) (.cons .bool .nil))))) l,.ro (.recd (.cons (.int .i64) (.cons (.int .i64) (.cons (.int .i64) .nil)))) b,.int .i64 wh,.int .i64 el,.int .i64 t]=>k (cshV (cshB cx cy sd w h pb po fl ke sw be we l b wh el t) (shP (tkV5 cx cy sd w h pb po fl ke sw be we b wh el) t.toNat 0 l []))
 | _=>none
theorem cshotTS_ok:FspOk Tryz.prog 8 cshotTS:=fsp_sim cshotS_ok (by intro α args k; unfold cshotTS; split<;>rfl) fun args out hq=>by
 unfold cshotTS at hq
 split at hq
 ·rename_i cx cy sd w h pb po fl ke sw be we l b wh el t
  cases hq
  obtain ⟨v,v',e1,e2,e3⟩:=csh_tot (cshB cx cy sd w h pb po fl ke sw be we l b wh el t) (shP (tkV5 cx cy sd w h pb po fl ke sw be we b wh el) t.toNat 0 l [])
  refine ⟨v,v',e1,?_,e3⟩
  rw [← e2]
  rfl
 ·cases hq
def okL (l:List BdI):Bool:=decide (l.length≤16)&&l.all bdOk
theorem okL_iff {l:List BdI}:okL l=true↔l.length≤16∧okS l:=by
 unfold okL
 rw [Bool.and_eq_true,decide_eq_true_eq,List.all_eq_true]
 refine and_congr Iff.rfl ⟨fun h i=>?_,fun h b hb=>?_⟩
 ·rcases Nat.lt_or_ge i l.length with hi | hi
  ·exact h _ (getD_mem bdD hi)
  ·rw [List.getD_eq_getElem?_getD,List.getElem?_eq_none hi]; decide
 ·obtain ⟨i,hi,e⟩:=List.getElem_of_mem hb
  have:=h i
  rw [List.getD_eq_getElem?_getD,List.getElem?_eq_getElem hi] at this
  rw [← e]; exact this
def rtkB (cx cy sd w h:Int) (pb po:List Int) (fl ke sw be we:Int) (b:List BrI) (el:Int) (l:List BdI) (t:Int):Bool:=iceB cx cy sd w h pb po&&(graB fl ke sw be we&&(brsB b&&(okL l&&((decide (0≤el)&&decide (el≤1000))&&tckB t))))
noncomputable def rtkS:Fsp:=fun _ args k=>match args with
 | [.agg [.int .i64 cx,.int .i64 cy,.int .i64 sd,.int .i64 w,.int .i64 h,.ro (.int .i64) pb,.ro (.int .i64) po,.int .i64 fl,.int .i64 ke,.int .i64 sw,.int .i64 be,.int .i64 we,.ro (.recd (.cons (.int .i64) (.cons (.int .i64) (.cons (.int .i64) .nil)))) b,.int .i64 wh,.int .i64 el],.ro (.recd (.cons (.int .i64) (.cons (.int .i64) (.cons (.recd (.cons (.recd (.cons (.int .i64) (.cons (.int .i64) .nil))) (.cons (.recd (.cons (.int .i64) (.cons (.int .i64) .nil))) (.cons (.int .i64) .nil)))) (.cons .bool .nil))))) l,.int .i64 t]=>bif rtkB cx cy sd w h pb po fl ke sw be we b el l t then k (rtO (ctkL true (tkP (slwV cx cy sd w h pb po fl ke sw be we) (bdvV cx cy sd w h pb po fl ke sw be we) (stP wh b t) t el l)) (ctkH true (tkP (slwV cx cy sd w h pb po fl ke sw be we) (bdvV cx cy sd w h pb po fl ke sw be we) (stP wh b t) t el l)) (ctkZ true (tkP (slwV cx cy sd w h pb po fl ke sw be we) (bdvV cx cy sd w h pb po fl ke sw be we) (stP wh b t) t el l))) else none
 | _=>none
theorem rtkS_ok:FspOk Tryz.prog 31 rtkS:=tower_Y fnC3_ok spL_ok ⟨Tryz.func31,fun _ _=>by kernel_rfl⟩ (by intro α args k; unfold rtkS; split<;>simp only [cond_bind,Option.bind_some,Option.bind_none]) fun args out hSm hEq=>by
 unfold rtkS at hEq
 split at hEq
 ·rename_i cx cy sd w h pb po fl ke sw be we b wh el l t
  cases hc:rtkB cx cy sd w h pb po fl ke sw be we b el l t
  ·rw [hc] at hEq; cases hEq
  ·rw [hc,cond_true] at hEq
   unfold rtkB at hc
   simp only [Bool.and_eq_true] at hc
   obtain ⟨hi,hg,hb,hl,he,ht⟩:=hc
   have hl:=okL_iff.1 hl
   refine ⟨30,13,(rtk_text 30 0 AOut cx cy sd w h pb po fl ke sw be we b wh el l t some).trans ?_⟩
   have h16:List.length ([]:List BdI) + l.length≤16:=by show 0 + l.length≤16; rw [Nat.zero_add]; exact hl.1
   refine Eq.trans (if_pos (Nat.le_trans (Nat.mul_le_mul_right 64 h16) (by decide))) ?_
   refine (rcT_fin cx cy sd w h pb po fl ke sw be we b wh el t l hi hg hl.2 hl.1 hb ht ⟨of_decide_eq_true he.1,of_decide_eq_true he.2⟩ some).trans (Eq.trans ?_ hEq)
   cases tkP (slwV cx cy sd w h pb po fl ke sw be we) (bdvV cx cy sd w h pb po fl ke sw be we) (stP wh b t) t el l<;>rfl
 ·cases hEq
noncomputable def fnC4:FuncId→Option Fsp:=fun g=>
 if g=31 then some rtkS else
 fnC3 g
theorem fnC4_ok:FsOk fnC4:=
 fs_cons rtkS_ok <|
 fnC3_ok
noncomputable def fnC5:FuncId→Option Fsp:=fun g=>
 fnC4 g
theorem fnC5_ok:FsOk fnC5:=
 fnC4_ok
def htD:HtI:=(0,0,0,())
def htEq (a b:HtI):Bool:=a.1==b.1&&(a.2.1==b.2.1&&(a.2.2.1==b.2.2.1&&true))
theorem htEq_refl (a:HtI):htEq a a=true:=by simp [htEq]
set_option maxRecDepth 100000 in
theorem rhitsx_text (N n0:Nat) (α:Type) (l l':List HtI) (k:AOut→Option α):evFn real tab ((twY fnC5 spL).env real tab N (n0 + 8)) N Tryz.f12 α [.ro (.recd (.cons (.int .i64) (.cons (.int .i64) (.cons (.int .i64) .nil)))) l,.ro (.recd (.cons (.int .i64) (.cons (.int .i64) (.cons (.int .i64) .nil)))) l'] k =
 bif (l.length:Int) != (l'.length:Int) then k (b1 false) else afterL (iterL N (saF htEq htD l l' (k (b1 false))) (0,())) fun id _=>if id=0 then k (b1 true) else none:=by
 kernel_rfl
theorem rhitsx_fin (l l':List HtI) (hs:∀ qSm∈([.ro (.recd (.cons (.int .i64) (.cons (.int .i64) (.cons (.int .i64) .nil)))) l,.ro (.recd (.cons (.int .i64) (.cons (.int .i64) (.cons (.int .i64) .nil)))) l']:List AVal),Sm qSm):∃ N n,∀ α (k:AOut→Option α),evFn real tab ((twY fnC5 spL).env real tab N n) N Tryz.f12 α [.ro (.recd (.cons (.int .i64) (.cons (.int .i64) (.cons (.int .i64) .nil)))) l,.ro (.recd (.cons (.int .i64) (.cons (.int .i64) (.cons (.int .i64) .nil)))) l'] k=k (b1 (sameX htEq htD l l')):=by
 exact ⟨l.length + 1,8,fun α k=>(rhitsx_text _ 0 α l l' k).trans (sa_loop htEq htD l l' (hs (.ro (.recd (.cons (.int .i64) (.cons (.int .i64) (.cons (.int .i64) .nil)))) l) (List.mem_cons_self ..)).len fun b=>k (b1 b))⟩
noncomputable def rhitsxS:Fsp:=fun _ args k=>match args with
 | [.ro (.recd (.cons (.int .i64) (.cons (.int .i64) (.cons (.int .i64) .nil)))) l,.ro (.recd (.cons (.int .i64) (.cons (.int .i64) (.cons (.int .i64) .nil)))) l']=>k (b1 (sameX htEq htD l l'))
 | _=>none
theorem rhitsxS_ok:FspOk Tryz.prog 12 rhitsxS:=tower_Y fnC5_ok spL_ok ⟨Tryz.func12,fun _ _=>by kernel_rfl⟩ (by intro α args k; unfold rhitsxS; split<;>rfl) fun args out hSm hEq=>by
 unfold rhitsxS at hEq
 split at hEq
 ·rename_i l l'
  obtain ⟨N,n,e⟩:=rhitsx_fin l l' hSm
  exact ⟨N,n,(e AOut some).trans hEq⟩
 ·cases hEq
noncomputable def fnC6:FuncId→Option Fsp:=fun g=>
 if g=12 then some rhitsxS else
 fnC5 g
theorem fnC6_ok:FsOk fnC6:=
 fs_cons rhitsxS_ok <|
 fnC5_ok
set_option maxRecDepth 100000 in
theorem rrgt_text (N n0:Nat) (α:Type) (cx cy sd w h:Int) (pb po:List Int) (fl ke sw be we:Int) (b:List BrI) (wh el:Int) (l:List BdI) (k:AOut→Option α):evFn real tab ((twY fnC3 spL).env real tab N (n0 + 8)) N Tryz.f28 α [.agg [.int .i64 cx,.int .i64 cy,.int .i64 sd,.int .i64 w,.int .i64 h,.ro (.int .i64) pb,.ro (.int .i64) po,.int .i64 fl,.int .i64 ke,.int .i64 sw,.int .i64 be,.int .i64 we,.ro (.recd (.cons (.int .i64) (.cons (.int .i64) (.cons (.int .i64) .nil)))) b,.int .i64 wh,.int .i64 el],.ro (.recd (.cons (.int .i64) (.cons (.int .i64) (.cons (.recd (.cons (.recd (.cons (.int .i64) (.cons (.int .i64) .nil))) (.cons (.recd (.cons (.int .i64) (.cons (.int .i64) .nil))) (.cons (.int .i64) .nil)))) (.cons .bool .nil))))) l] k =
 bif iceB cx cy sd w h pb po then bif sceB l then bif graB fl ke sw be we then bif brsB b then bif decide (-1≤wh) then bif decide (wh≤IntKind.i64.wrap ((↑l.length:Int) - 1))
 then bif decide (0≤el) then k (AOut.ret (AVal.bool (decide (el≤1000)))) else k (AOut.ret (AVal.bool false)) else k (AOut.ret (AVal.bool false)) else k (AOut.ret (AVal.bool
 false)) else k (AOut.ret (AVal.bool false)) else k (AOut.ret (AVal.bool false)) else bif graB fl ke sw be we then k (AOut.ret (AVal.bool false)) else k (AOut.ret (AVal.bool false))
 else bif sceB l then k (AOut.ret (AVal.bool false)) else k (AOut.ret (AVal.bool false)):=by kernel_rfl
def rrgB (cx cy sd w h:Int) (pb po:List Int) (fl ke sw be we:Int) (b:List BrI) (wh el:Int) (l:List BdI):Bool:=iceB cx cy sd w h pb po&&(graB fl ke sw be we&&(sceB l&&(brsB b&&((decide (-1≤wh)&&decide (wh≤(l.length:Int) - 1))&&(decide (0≤el)&&decide (el≤1000))))))
theorem rrgt_fin (cx cy sd w h:Int) (pb po:List Int) (fl ke sw be we:Int) (b:List BrI) (wh el:Int) (l:List BdI) (hs:∀ qSm∈([.agg [.int .i64 cx,.int .i64 cy,.int .i64 sd,.int .i64 w,.int .i64 h,.ro (.int .i64) pb,.ro (.int .i64) po,.int .i64 fl,.int .i64 ke,.int .i64 sw,.int .i64 be,.int .i64 we,.ro (.recd (.cons (.int .i64) (.cons (.int .i64) (.cons (.int .i64) .nil)))) b,.int .i64 wh,.int .i64 el],.ro (.recd (.cons (.int .i64) (.cons (.int .i64) (.cons (.recd (.cons (.recd (.cons (.int .i64) (.cons (.int .i64) .nil))) (.cons (.recd (.cons (.int .i64) (.cons (.int .i64) .nil))) (.cons (.int .i64) .nil)))) (.cons .bool .nil))))) l]:List AVal),Sm qSm):∃ N n,∀ α (k:AOut→Option α),evFn real tab ((twY fnC3 spL).env real tab N n) N Tryz.f28 α [.agg [.int .i64 cx,.int .i64 cy,.int .i64 sd,.int .i64 w,.int .i64 h,.ro (.int .i64) pb,.ro (.int .i64) po,.int .i64 fl,.int .i64 ke,.int .i64 sw,.int .i64 be,.int .i64 we,.ro (.recd (.cons (.int .i64) (.cons (.int .i64) (.cons (.int .i64) .nil)))) b,.int .i64 wh,.int .i64 el],.ro (.recd (.cons (.int .i64) (.cons (.int .i64) (.cons (.recd (.cons (.recd (.cons (.int .i64) (.cons (.int .i64) .nil))) (.cons (.recd (.cons (.int .i64) (.cons (.int .i64) .nil))) (.cons (.int .i64) .nil)))) (.cons .bool .nil))))) l] k=k (b1 (rrgB cx cy sd w h pb po fl ke sw be we b wh el l)):=by
 refine ⟨8,8,fun α k=>(rrgt_text 8 0 α cx cy sd w h pb po fl ke sw be we b wh el l k).trans ?_⟩
 unfold rrgB
 cases hs:sceB l
 ·cases iceB cx cy sd w h pb po<;>cases graB fl ke sw be we<;>rfl
 have hl:=scn_len hs
 have ew:IntKind.i64.wrap ((l.length:Int) - 1)=(l.length:Int) - 1:=i64_in _ (by omega)
 rw [ew]
 cases iceB cx cy sd w h pb po
 ·rfl
 cases graB fl ke sw be we
 ·rfl
 cases brsB b
 ·rfl
 cases decide (-1≤wh)
 ·rfl
 cases decide (wh≤(l.length:Int) - 1)
 ·rfl
 cases decide (0≤el)<;>rfl
noncomputable def rrgtS:Fsp:=fun _ args k=>match args with
 | [.agg [.int .i64 cx,.int .i64 cy,.int .i64 sd,.int .i64 w,.int .i64 h,.ro (.int .i64) pb,.ro (.int .i64) po,.int .i64 fl,.int .i64 ke,.int .i64 sw,.int .i64 be,.int .i64 we,.ro (.recd (.cons (.int .i64) (.cons (.int .i64) (.cons (.int .i64) .nil)))) b,.int .i64 wh,.int .i64 el],.ro (.recd (.cons (.int .i64) (.cons (.int .i64) (.cons (.recd (.cons (.recd (.cons (.int .i64) (.cons (.int .i64) .nil))) (.cons (.recd (.cons (.int .i64) (.cons (.int .i64) .nil))) (.cons (.int .i64) .nil)))) (.cons .bool .nil))))) l]=>k (b1 (rrgB cx cy sd w h pb po fl ke sw be we b wh el l))
 | _=>none
theorem rrgtS_ok:FspOk Tryz.prog 28 rrgtS:=tower_Y fnC3_ok spL_ok ⟨Tryz.func28,fun _ _=>by kernel_rfl⟩ (by intro α args k; unfold rrgtS; split<;>rfl) fun args out hSm hEq=>by
 unfold rrgtS at hEq
 split at hEq
 ·rename_i cx cy sd w h pb po fl ke sw be we b wh el l
  obtain ⟨N,n,e⟩:=rrgt_fin cx cy sd w h pb po fl ke sw be we b wh el l hSm
  exact ⟨N,n,(e AOut some).trans hEq⟩
 ·cases hEq
noncomputable def fnC7:FuncId→Option Fsp:=fun g=>
 if g=28 then some rrgtS else
 fnC3 g
theorem fnC7_ok:FsOk fnC7:=
 fs_cons rrgtS_ok <|
 fnC3_ok
abbrev R3:=List BdI × List HtI × Int × Unit
abbrev rshE (e:Int):AOut:=.ret (.tup [.ro bdyS ([]:List BdI),.int .i64 0,.ro hitS ([]:List HtI),.int .i64 e])
section
variable {α:Type} (cx cy sd w h:Int) (pb po:List Int) (fl ke sw be we:Int) (b:List BrI) (wh el t:Int)
noncomputable def rstC (N:Nat) (l:List BdI) (R:Option α) (K:List BdI→List HtI→Option α):Option α:=
 afterL (iterL N (rgF cx cy sd w h pb po fl ke sw be we b wh t R) (0,[]++l,())) fun id y=>if id=0 then
  afterL (iterL N (rrP el N R t) (true,[],0,y.2.1,())) fun id y=>if id=0 then
   afterL (iterL N rgoF (0,y.2.2.2.1,())) fun id z=>if id=6 then K z.2.1 y.2.1 else none
  else none
 else none
noncomputable def rshF (N:Nat) (m:Int) (k:AOut→Option α) (x:R3):Option (LRes R3 α):=
 bif decide (x.2.2.1 < m) then
  bif !x.1.any mvg then some (.brk 0 (x.1,x.2.1,x.2.2.1,()))
  else if (List.length ([]:List BdI) + x.1.length) * 64≤room then
   rstC cx cy sd w h pb po fl ke sw be we b wh el x.2.2.1 N x.1 (finL (σ:=R3) (k (rshE 4))) fun z hh=>
    if (x.2.1.length + hh.length) * 24≤room then
     bif decide (((x.2.1++hh).length:Int) > 4096) then finL (k (rshE 3))
     else some (.cont (z,x.2.1++hh,IntKind.i64.wrap (x.2.2.1 + 1),()))
    else none
  else none
 else some (.brk 0 (x.1,x.2.1,x.2.2.1,()))
noncomputable def rshT (N:Nat) (l:List BdI) (k:AOut→Option α):Option α:=
 if (List.length ([]:List BdI) + l.length) * 64≤room then
  afterL (iterL N (rshF cx cy sd w h pb po fl ke sw be we b wh el N t k) ([]++l,[],0,())) fun id z=>if id=0 then
   k (.ret (.tup [.ro bdyS z.1,.int .i64 z.2.2.1,.ro hitS z.2.1,.int .i64 0]))
  else none
 else none
end
set_option maxRecDepth 100000 in
theorem rshot_text (N n0:Nat) (α:Type) (cx cy sd w h:Int) (pb po:List Int) (fl ke sw be we:Int) (b:List BrI) (wh el:Int) (l:List BdI) (t:Int) (k:AOut→Option α):evFn real tab ((twY fnC7 spL).env real tab N (n0 + 14)) N Tryz.f9 α [.agg [.int .i64 cx,.int .i64 cy,.int .i64 sd,.int .i64 w,.int .i64 h,.ro (.int .i64) pb,.ro (.int .i64) po,.int .i64 fl,.int .i64 ke,.int .i64 sw,.int .i64 be,.int .i64 we,.ro (.recd (.cons (.int .i64) (.cons (.int .i64) (.cons (.int .i64) .nil)))) b,.int .i64 wh,.int .i64 el],.ro bdyS l,.int .i64 t] k =
 bif !rrgB cx cy sd w h pb po fl ke sw be we b wh el l then k (rshE 2) else bif decide (0≤t) then bif !decide (t≤6000) then k (rshE 2) else rshT cx cy sd w h pb po fl ke sw be we
 b wh el t N l k else k (rshE 2):=by kernel_rfl
section
variable {α:Type} (cx cy sd w h:Int) (pb po:List Int) (fl ke sw be we:Int) (b:List BrI) (wh el:Int)
theorem rstC_fin (hi:iceB cx cy sd w h pb po=true) (hg:graB fl ke sw be we=true) (hb:brsB b=true) (he:0≤el∧el≤1000) {l:List BdI} (hS:sceB l=true) {t:Int} (ht:tckB t=true) (R:Option α) (K:List BdI→List HtI→Option α) {N:Nat} (hN:30≤N) :
 rstC cx cy sd w h pb po fl ke sw be we b wh el t N l R K=match tkV5 cx cy sd w h pb po fl ke sw be we b wh el t l with | some p=>K p.1 p.2 | none=>R:=by
 have hl:=scn_len hS
 have hs:=okS_of hS
 show _=match tkP (slwV cx cy sd w h pb po fl ke sw be we) (bdvV cx cy sd w h pb po fl ke sw be we) (stP wh b t) t el l with | some p=>K p.1 p.2 | none=>R
 unfold rstC tkP
 refine (rgd_loop cx cy sd w h pb po fl ke sw be we b wh t hi hg hb ht R hs hl _ (by omega)).trans ?_
 cases h1:glL (slwV cx cy sd w h pb po fl ke sw be we) (bdvV cx cy sd w h pb po fl ke sw be we) (stP wh b t) l with
 | none=>rfl
 | some S1=>
   have hv:S1.length=l.length∧okS S1:=foldO_inv (step:=glP (slwV cx cy sd w h pb po fl ke sw be we) (bdvV cx cy sd w h pb po fl ke sw be we) (stP wh b t)) (inv:=fun _ S=>S.length=l.length∧okS S) (n:=l.length) (fun i t t' hin hv hs=>glP_inv hv hs) l.length 0 l S1 (by omega) ⟨rfl,hs⟩ h1
   refine (rrs_loop R he (n:=S1.length) (by omega) _ (fun m hh j S=>rfl) 8 0 0 (S1,[],true) N (by omega) (by omega) ⟨rfl,hv.2,Nat.zero_le _⟩ rfl N (by omega) (by omega)).trans ?_
   simp only
   cases h2:rnsP t el 8 (S1,[],true) with
   | none=>rfl
   | some s'=>
     obtain ⟨H',hv'⟩:=rns_inv (n:=S1.length) (by omega) 8 0 (s:=(S1,[],true)) ⟨rfl,hv.2,Nat.zero_le _⟩ h2
     exact rgo_loop (by rw [hv'.len]; omega) _ (by rw [hv'.len]; omega)
theorem rshot_loop (hi:iceB cx cy sd w h pb po=true) (hg:graB fl ke sw be we=true) (hb:brsB b=true) (he:0≤el∧el≤1000) {m:Int} (hm:m≤6000) (k:AOut→Option α) (K:Nat→R3→Option α) {N:Nat} (hN:30≤N) :
 ∀ (n:Nat) (t:Int) (S:List BdI) (hs:List HtI) (M:Nat),0≤t→t + n=m→sceB S=true→hs.length≤4096→n < M →
   afterL (iterL M (rshF cx cy sd w h pb po fl ke sw be we b wh el N m k) (S,hs,t,())) K=match shP (tkV5 cx cy sd w h pb po fl ke sw be we b wh el) n t S hs with | .inl e=>k (rshE e) | .inr p=>K 0 (p.1,p.2.2,p.2.1,())
 | 0,t,S,hs,M,h0,ht,hS,hh,hM=>by
   obtain ⟨M,rfl⟩:∃ q,M=q + 1:=⟨M - 1,by omega⟩
   have e:rshF cx cy sd w h pb po fl ke sw be we b wh el N m k (S,hs,t,())=some (.brk 0 (S,hs,t,())):=by
    unfold rshF
    rw [show decide (t < m)=false from decide_eq_false (by omega),cond_false]
   rw [iterL,e]
   rfl
 | n + 1,t,S,hs,M,h0,ht,hS,hh,hM=>by
   obtain ⟨M,rfl⟩:∃ q,M=q + 1:=⟨M - 1,by omega⟩
   have hl:=scn_len hS
   have hroom:room ≥ 1000000:=by decide
   have e:rshF cx cy sd w h pb po fl ke sw be we b wh el N m k (S,hs,t,())=bif S.any mvg then (match tkV5 cx cy sd w h pb po fl ke sw be we b wh el t S with | none=>finL (k (rshE 4)) | some p=>bif decide ((hs++p.2).length≤4096) then some (.cont (p.1,hs++p.2,t + 1,())) else finL (k (rshE 3))) else some (.brk 0 (S,hs,t,())):=by
    unfold rshF
    rw [show decide (t < m)=true from decide_eq_true (by omega),cond_true]
    show (bif !S.any mvg then _ else _)=_
    cases S.any mvg
    ·rfl
    ·simp only [cond_true,Bool.not_true,cond_false]
     rw [if_pos (show (List.length ([]:List BdI) + S.length) * 64≤room by show (0 + S.length) * 64≤room; omega)]
     refine (rstC_fin cx cy sd w h pb po fl ke sw be we b wh el hi hg hb he hS (t:=t) (by unfold tckB; simp; omega) _ _ hN).trans ?_
     cases hp:tkV5 cx cy sd w h pb po fl ke sw be we b wh el t S with
     | none=>rfl
     | some p=>
       have hk:=tk_hits hS hp
       simp only
       rw [if_pos (by omega),i64_in (t + 1) (by omega)]
       cases hc:decide ((hs++p.2).length≤4096)
       ·have:=of_decide_eq_false hc
        rw [show decide (((hs++p.2).length:Int) > 4096)=true from decide_eq_true (by omega)]
        rfl
       ·have:=of_decide_eq_true hc
        rw [show decide (((hs++p.2).length:Int) > 4096)=false from decide_eq_false (by omega)]
        rfl
   rw [iterL,e,shP]
   cases S.any mvg
   ·rfl
   ·simp only [cond_true]
    cases hp:tkV5 cx cy sd w h pb po fl ke sw be we b wh el t S with
    | none=>
      show _=k (rshE 4)
      simp only
      generalize k (rshE 4)=R
      cases R<;>rfl
    | some p=>
      simp only
      cases hc:decide ((hs++p.2).length≤4096)
      ·simp only [cond_false]
       show _=k (rshE 3)
       generalize k (rshE 3)=R
       cases R<;>rfl
      ·simp only [cond_true]
       have hv:=tk_valid (S':=p.1) (H:=p.2) hS hp
       exact rshot_loop hi hg hb he hm k K hN n (t + 1) p.1 (hs++p.2) M (by omega) (by omega) hv.1 (of_decide_eq_true hc) (by omega)
end
theorem rshot_fin (cx cy sd w h:Int) (pb po:List Int) (fl ke sw be we:Int) (b:List BrI) (wh el:Int) (l:List BdI) (t:Int) (hs:∀ qSm∈([.agg [.int .i64 cx,.int .i64 cy,.int .i64 sd,.int .i64 w,.int .i64 h,.ro (.int .i64) pb,.ro (.int .i64) po,.int .i64 fl,.int .i64 ke,.int .i64 sw,.int .i64 be,.int .i64 we,.ro (.recd (.cons (.int .i64) (.cons (.int .i64) (.cons (.int .i64) .nil)))) b,.int .i64 wh,.int .i64 el],.ro (.recd (.cons (.int .i64) (.cons (.int .i64) (.cons (.recd (.cons (.recd (.cons (.int .i64) (.cons (.int .i64) .nil))) (.cons (.recd (.cons (.int .i64) (.cons (.int .i64) .nil))) (.cons (.int .i64) .nil)))) (.cons .bool .nil))))) l,.int .i64 t]:List AVal),Sm qSm):∃ N n,∀ α (k:AOut→Option α),evFn real tab ((twY fnC7 spL).env real tab N n) N Tryz.f9 α [.agg [.int .i64 cx,.int .i64 cy,.int .i64 sd,.int .i64 w,.int .i64 h,.ro (.int .i64) pb,.ro (.int .i64) po,.int .i64 fl,.int .i64 ke,.int .i64 sw,.int .i64 be,.int .i64 we,.ro (.recd (.cons (.int .i64) (.cons (.int .i64) (.cons (.int .i64) .nil)))) b,.int .i64 wh,.int .i64 el],.ro (.recd (.cons (.int .i64) (.cons (.int .i64) (.cons (.recd (.cons (.recd (.cons (.int .i64) (.cons (.int .i64) .nil))) (.cons (.recd (.cons (.int .i64) (.cons (.int .i64) .nil))) (.cons (.int .i64) .nil)))) (.cons .bool .nil))))) l,.int .i64 t] k=k (cshV (cshB cx cy sd w h pb po fl ke sw be we l b wh el t) (shP (tkV5 cx cy sd w h pb po fl ke sw be we b wh el) t.toNat 0 l [])):=by
 refine ⟨t.toNat + 30,14,fun α k=>(rshot_text (t.toNat + 30) 0 α cx cy sd w h pb po fl ke sw be we b wh el l t k).trans ?_⟩
 have hroom:room ≥ 1000000:=by decide
 unfold rrgB cshB ctkB
 cases hi:iceB cx cy sd w h pb po
 ·rfl
 cases hg:graB fl ke sw be we
 ·rfl
 cases hs:sceB l
 ·rfl
 cases hb:brsB b
 ·rfl
 have hl:=scn_len hs
 unfold tckB
 cases h1:decide (-1≤wh)
 ·rfl
 cases h2:decide (wh≤(l.length:Int) - 1)
 ·rfl
 cases h3:decide (0≤el)
 ·rfl
 cases h4:decide (el≤1000)
 ·rfl
 cases h5:decide (0≤t)
 ·rfl
 cases h6:decide (t≤6000)
 ·rfl
 have ht:0≤t∧t≤6000:=⟨of_decide_eq_true h5,of_decide_eq_true h6⟩
 show rshT cx cy sd w h pb po fl ke sw be we b wh el t (t.toNat + 30) l k=_
 unfold rshT
 refine Eq.trans (if_pos (by show (0 + l.length) * 64≤room; omega)) ?_
 refine (rshot_loop cx cy sd w h pb po fl ke sw be we b wh el hi hg hb ⟨of_decide_eq_true h3,of_decide_eq_true h4⟩ (m:=t) ht.2 k _ (by omega) t.toNat 0 l [] (t.toNat + 30) (by omega) (by omega) hs (by simp) (by omega)).trans ?_
 show _=k (cshV true (shP (tkV5 cx cy sd w h pb po fl ke sw be we b wh el) t.toNat 0 l []))
 cases shP (tkV5 cx cy sd w h pb po fl ke sw be we b wh el) t.toNat 0 l []<;>rfl
noncomputable def rshotS:Fsp:=fun _ args k=>match args with
 | [.agg [.int .i64 cx,.int .i64 cy,.int .i64 sd,.int .i64 w,.int .i64 h,.ro (.int .i64) pb,.ro (.int .i64) po,.int .i64 fl,.int .i64 ke,.int .i64 sw,.int .i64 be,.int .i64 we,.ro (.recd (.cons (.int .i64) (.cons (.int .i64) (.cons (.int .i64) .nil)))) b,.int .i64 wh,.int .i64 el],.ro (.recd (.cons (.int .i64) (.cons (.int .i64) (.cons (.recd (.cons (.recd (.cons (.int .i64) (.cons (.int .i64) .nil))) (.cons (.recd (.cons (.int .i64) (.cons (.int .i64) .nil))) (.cons (.int .i64) .nil)))) (.cons .bool .nil))))) l,.int .i64 t]=>k (cshV (cshB cx cy sd w h pb po fl ke sw be we l b wh el t) (shP (tkV5 cx cy sd w h pb po fl ke sw be we b wh el) t.toNat 0 l []))
 | _=>none
theorem rshotS_ok:FspOk Tryz.prog 9 rshotS:=tower_Y fnC7_ok spL_ok ⟨Tryz.func9,fun _ _=>by kernel_rfl⟩ (by intro α args k; unfold rshotS; split<;>rfl) fun args out hSm hEq=>by
 unfold rshotS at hEq
 split at hEq
 ·rename_i cx cy sd w h pb po fl ke sw be we b wh el l t
  obtain ⟨N,n,e⟩:=rshot_fin cx cy sd w h pb po fl ke sw be we b wh el l t hSm
  exact ⟨N,n,(e AOut some).trans hEq⟩
 ·cases hEq
noncomputable def fnC8:FuncId→Option Fsp:=fun g=>
 if g=9 then some rshotS else
 fnC6 g
theorem fnC8_ok:FsOk fnC8:=
 fs_cons rshotS_ok <|
 fnC6_ok
def uniVC (x y c:Int):Int:=bif uniB x y then (bif sq2 x y==0 then 0 else sg (ngB c) (shrC (ab c) (sq2 x y))) else 0
def uniC:Fsp:=fun _ args k=>match args with
 | [.agg [.int .i64 x,.int .i64 y]]=>k (s2 (uniVC x y x) (uniVC x y y) (uniE x y))
 | _=>none
theorem uniC_eq:uniC=uniS:=by
 have h:∀ x y c,uniV x y c=uniVC x y c:=fun x y c=>by unfold uniV uniVC; rw [shr_C]
 unfold uniC uniS
 simp only [h]
 rfl
theorem uniC_ok:FspOk Tryz.prog 65 uniC:=by rw [uniC_eq]; exact uniS_ok
def bodyS:Fsp:=fun _ args k=>match args with
 | [.int .i64 t,.int .i64 y,.int .i64 v]=>k (.ret (bdN t 0 0 y 0 v 0 false))
 | _=>none
theorem body_text (N n:Nat) (α:Type) (t y v:Int) (k:AOut→Option α):evFn real tab ((twT fsH spC).env real tab N (n + 4)) N Tryz.f18 α [iN t,iN y,iN v] k=k (.ret (bdN t 0 0 y 0 v 0 false)):=by kernel_rfl
theorem bodyS_ok:FspOk Tryz.prog 18 bodyS:=tower_S fsH_ok spC_ok ⟨Tryz.func18,fun _ _=>by kernel_rfl⟩ (by intro α args k; unfold bodyS; split<;>rfl) fun args out hs h=>by
 unfold bodyS at h
 split at h
 ·exact ⟨8,4,(body_text 8 0 AOut _ _ _ some).trans h⟩
 ·cases h
noncomputable def fsI:FuncId→Option Fsp:=fun g=>if g=18 then some bodyS else fsH g
theorem fsI_ok:FsOk fsI:=fs_cons bodyS_ok fsH_ok
noncomputable def fsK:FuncId→Option Fsp:=fun g=>if g=65 then some uniC else fsI g
theorem fsK_ok:FsOk fsK:=fs_cons uniC_ok fsI_ok
def trueS:Fsp:=fun _ args k=>match args with
 | []=>k (b1 true)
 | _=>none
set_option maxRecDepth 100000 in
theorem aliveT (α:Type) (k:AOut→Option α):evFn real tab ((twT fsK spC).env real tab 20 8) 20 Tryz.f7 α [] k=k (b1 true):=by kernel_rfl
theorem aliveS_ok:FspOk Tryz.prog 7 trueS:=tower_S fsK_ok spC_ok ⟨Tryz.func7,fun _ _=>by kernel_rfl⟩ (by intro α args k; unfold trueS; split<;>rfl) fun args out hs h=>by
 unfold trueS at h
 split at h
 ·exact ⟨20,8,(aliveT AOut some).trans h⟩
 ·cases h
end Go.Proofs.YtpigibmlkgjdkaaGreat
