/- Parts of the proof, in build order. -/
import Derived.Test.YtenolfpkkgcgcaaGreatM7
import Derived.WalkKit
import Derived.WalkSpells
import Derived.WalkLawsBesides
import Derived.RegionTactic
import Derived.LoopTactic
import Derived.Outline
import Derived.Below
import Derived.Lib.Hide
import Derived.StillTailTactics
import Derived.Maps.Own
import Derived.Test.YtenolfpkkgcgcaaGreatM6
namespace Go.Proofs.YtenolfpkkgcgcaaGreat
open Go.RowKit
def fitT {α:Type} (neg:Bool) (n:Int) (k:AOut→Option α):Option α:=bif fxB n then k (i2 (sg neg n) 0) else k (i2 0 4)
theorem fitT_eq {α:Type} (neg:Bool) (n:Int) (k:AOut→Option α):fitT neg n k=k (i2 (fxV neg n) (fxE n)):=by
 unfold fitT fxV fxE; cases fxB n<;>rfl
/-! Times. -/
def tiOk (x y b:Int):Bool:=okB x&&okB y&&okB b
def tiFit (x y b how:Int):Bool:=fxB (prP x b how)&&fxB (prP y b how)
def tiV (x y b how c:Int):Int:=bif tiOk x y b&&tiFit x y b how then sg (xorB (ngB c) (ngB b)) (prP c b how) else 0
def tiE (x y b how:Int):Int:=bif tiOk x y b then (bif tiFit x y b how then 0 else 4) else 2
def timesS:Fsp:=fun _ args k=>match args with
 | [.agg [.int .i64 x,.int .i64 y],.int .i64 b,.int .i64 how]=>bif wayB how then k (s2 (tiV x y b how x) (tiV x y b how y) (tiE x y b how)) else none
 |_=>none
def timesText {α:Type} (x y b how:Int) (k:AOut→Option α):Option α:=
 bif [x,y,b].all okB then
  bif [x,y,x,y].all okB then
   bif okB x&&okB b then
    bif fxB (prP x b how) then
     bif okB y&&okB b then
      bif fxB (prP y b how) then k (s2 (sg (xorB (ngB x) (ngB b)) (prP x b how)) (sg (xorB (ngB y) (ngB b)) (prP y b how)) 0)
      else k (s2 0 0 4)
     else k (s2 0 0 2)
    else k (s2 0 0 4)
   else k (s2 0 0 2)
  else k (s2 0 0 2)
 else k (s2 0 0 2)
theorem times_fin {α:Type} (x y b how:Int) (k:AOut→Option α):timesText x y b how k=k (s2 (tiV x y b how x) (tiV x y b how y) (tiE x y b how)):=by
 unfold timesText tiV tiE tiOk tiFit
 rw[all3,all4]
 cases okB x<;>cases okB y<;>cases okB b<;>cases fxB (prP x b how)<;>cases fxB (prP y b how)<;>rfl
theorem times0_text (N n:Nat) (α:Type) (x y b:Int) (k:AOut→Option α):evFn real tab ((twT fsE spB).env real tab N (n+6)) N Tryz.f184 α [sN x y,iN b,iN 0] k=timesText x y b 0 k:=by kernel_rfl
theorem times1_text (N n:Nat) (α:Type) (x y b:Int) (k:AOut→Option α):evFn real tab ((twT fsE spB).env real tab N (n+6)) N Tryz.f184 α [sN x y,iN b,iN 1] k=timesText x y b 1 k:=by kernel_rfl
theorem times2_text (N n:Nat) (α:Type) (x y b:Int) (k:AOut→Option α):evFn real tab ((twT fsE spB).env real tab N (n+6)) N Tryz.f184 α [sN x y,iN b,iN 2] k=timesText x y b 2 k:=by kernel_rfl
theorem times3_text (N n:Nat) (α:Type) (x y b:Int) (k:AOut→Option α):evFn real tab ((twT fsE spB).env real tab N (n+6)) N Tryz.f184 α [sN x y,iN b,iN 3] k=timesText x y b 3 k:=by kernel_rfl
theorem timesS_ok:FspOk Tryz.prog 184 timesS:=tower_S fsE_ok spB_ok ⟨Tryz.func184,fun _ _=>by kernel_rfl⟩ (by intro α args k; unfold timesS; split<;>simp only[cond_bind,Option.bind_some,Option.bind_none]) fun args out hs h=>by
 unfold timesS at h
 split at h
 ·rename_i x y b how
  cases hw:wayB how
  ·rw[hw] at h; cases h
  ·rw[hw,cond_true] at h
   rcases way_cases hw with rfl|rfl|rfl|rfl
   ·exact⟨8,6,(times0_text 8 0 AOut x y b some).trans ((times_fin ..).trans h)⟩
   ·exact⟨8,6,(times1_text 8 0 AOut x y b some).trans ((times_fin ..).trans h)⟩
   ·exact⟨8,6,(times2_text 8 0 AOut x y b some).trans ((times_fin ..).trans h)⟩
   ·exact⟨8,6,(times3_text 8 0 AOut x y b some).trans ((times_fin ..).trans h)⟩
 ·cases h
/-! Dot. -/
def dtP (s how:Int):Int:=rndP how (ngB s) (ab s) 65536
def dtV (x y u v how:Int):Int:=bif four x y u v then fxV (ngB (dotS x y u v)) (dtP (dotS x y u v) how) else 0
def dtE (x y u v how:Int):Int:=bif four x y u v then fxE (dtP (dotS x y u v) how) else 2
def dotPS:Fsp:=fun _ args k=>match args with
 | [.agg [.int .i64 x,.int .i64 y],.agg [.int .i64 u,.int .i64 v],.int .i64 how]=>bif wayB how then k (i2 (dtV x y u v how) (dtE x y u v how)) else none
 |_=>none
def dotText {α:Type} (x u v w how:Int) (k:AOut→Option α):Option α:=
 bif [x,u,v,w].all okB then
  bif i6 x then
   bif i6 v then
    bif wB (ab x)&&wB (ab v) then
     bif i6 u then
      bif i6 w then
       bif wB (ab u)&&wB (ab w) then
        bif (!(decide (x<0)==decide (v<0)))==(!(decide (u<0)==decide (w<0))) then
         bif wB (hiW (ab x*ab v))&&wB (loW (ab x*ab v))&&wB (hiW (ab u*ab w))&&wB (loW (ab u*ab w))&&decide (vw (hiW (ab x*ab v)) (loW (ab x*ab v))+vw (hiW (ab u*ab w)) (loW (ab u*ab w))<340282366920938463463374607431768211456) then
          bif wB (hiW (vw (hiW (ab x*ab v)) (loW (ab x*ab v))+vw (hiW (ab u*ab w)) (loW (ab u*ab w))))&&wB (loW (vw (hiW (ab x*ab v)) (loW (ab x*ab v))+vw (hiW (ab u*ab w)) (loW (ab u*ab w))))&&wB 65536&&decide ((0:Int)<65536) then
           fitT (!(decide (x<0)==decide (v<0))) (rndP how (!(decide (x<0)==decide (v<0))) (vw (hiW (vw (hiW (ab x*ab v)) (loW (ab x*ab v))+vw (hiW (ab u*ab w)) (loW (ab u*ab w)))) (loW (vw (hiW (ab x*ab v)) (loW (ab x*ab v))+vw (hiW (ab u*ab w)) (loW (ab u*ab w))))) 65536) k
          else none
         else none
        else
         bif wB (loW (ab x*ab v))&&wB (loW (ab u*ab w)) then
          bif decide (cmp3 (vw (hiW (ab x*ab v)) (loW (ab x*ab v))) (vw (hiW (ab u*ab w)) (loW (ab u*ab w)))≥0) then
           bif wB (hiW (ab x*ab v))&&wB (loW (ab x*ab v))&&wB (hiW (ab u*ab w))&&wB (loW (ab u*ab w))&&decide (vw (hiW (ab u*ab w)) (loW (ab u*ab w))≤vw (hiW (ab x*ab v)) (loW (ab x*ab v))) then
            bif wB (hiW (vw (hiW (ab x*ab v)) (loW (ab x*ab v))-vw (hiW (ab u*ab w)) (loW (ab u*ab w))))&&wB (loW (vw (hiW (ab x*ab v)) (loW (ab x*ab v))-vw (hiW (ab u*ab w)) (loW (ab u*ab w))))&&wB 65536&&decide ((0:Int)<65536) then
             fitT (!(decide (x<0)==decide (v<0))) (rndP how (!(decide (x<0)==decide (v<0))) (vw (hiW (vw (hiW (ab x*ab v)) (loW (ab x*ab v))-vw (hiW (ab u*ab w)) (loW (ab u*ab w)))) (loW (vw (hiW (ab x*ab v)) (loW (ab x*ab v))-vw (hiW (ab u*ab w)) (loW (ab u*ab w))))) 65536) k
            else none
           else none
          else
           bif wB (hiW (ab u*ab w))&&wB (loW (ab u*ab w))&&wB (hiW (ab x*ab v))&&wB (loW (ab x*ab v))&&decide (vw (hiW (ab x*ab v)) (loW (ab x*ab v))≤vw (hiW (ab u*ab w)) (loW (ab u*ab w))) then
            bif wB (hiW (vw (hiW (ab u*ab w)) (loW (ab u*ab w))-vw (hiW (ab x*ab v)) (loW (ab x*ab v))))&&wB (loW (vw (hiW (ab u*ab w)) (loW (ab u*ab w))-vw (hiW (ab x*ab v)) (loW (ab x*ab v))))&&wB 65536&&decide ((0:Int)<65536) then
             fitT (!(decide (u<0)==decide (w<0))) (rndP how (!(decide (u<0)==decide (w<0))) (vw (hiW (vw (hiW (ab u*ab w)) (loW (ab u*ab w))-vw (hiW (ab x*ab v)) (loW (ab x*ab v)))) (loW (vw (hiW (ab u*ab w)) (loW (ab u*ab w))-vw (hiW (ab x*ab v)) (loW (ab x*ab v))))) 65536) k
            else none
           else none
         else none
       else none
      else none
     else none
    else none
   else none
  else none
 else k (i2 0 2)
theorem mul_sg (a b:Int):a*b=sg (xorB (ngB a) (ngB b)) (ab a*ab b):=by
 unfold sg xorB ngB ab
 by_cases h1:a<0<;>by_cases h2:b<0<;>simp[h1,h2,Int.neg_mul,Int.mul_neg]
theorem rnd0 (how:Int) (neg:Bool):rndP how neg 0 65536=0:=by
 unfold rndP rnd up1; simp
theorem fit_sign {α:Type} {s N how:Int} {neg:Bool} (hs:s=sg neg N) (hN:0≤N) (k:AOut→Option α):fitT neg (rndP how neg N 65536) k=k (i2 (fxV (ngB s) (dtP s how)) (fxE (dtP s how))):=by
 rw[fitT_eq]
 unfold dtP
 rcases Int.lt_or_eq_of_le hN with h|h
 ·have e1:ngB s=neg∧ab s=N:=by
   subst hs; unfold ngB ab sg
   cases neg
   ·simp only[cond_false]; rw[decide_eq_false (by omega),if_neg (by omega)]; exact⟨rfl,rfl⟩
   ·simp only[cond_true]; rw[decide_eq_true (by omega),if_pos (by omega)]; exact⟨rfl,by omega⟩
  rw[e1.1,e1.2]
 ·subst h
  have e:s=0:=by subst hs; cases neg<;>rfl
  subst e
  rw[show ab 0=0 from rfl,rnd0,rnd0]
  cases neg<;>rfl
theorem dot_fin {α:Type} (x u v w how:Int) (k:AOut→Option α):dotText x u v w how k=k (i2 (dtV x u v w how) (dtE x u v w how)):=by
 unfold dotText dtV dtE four
 rw[all4]
 cases hx:okB x
 ·rfl
 ·cases hu:okB u
  ·rfl
  ·cases hv:okB v
   ·rfl
   ·cases hw:okB w
    ·rfl
    ·have p:=ab_mul_in hx hv
     have q:=ab_mul_in hu hw
     have e1:=mul_sg x v
     have e2:=mul_sg u w
     simp only[i6_ok hx,i6_ok hu,i6_ok hv,i6_ok hw,wB_ab (i6_ok hx),wB_ab (i6_ok hu),wB_ab (i6_ok hv),wB_ab (i6_ok hw),lo_wB,vw_hl,hi_wB (show 0≤ab x*ab v∧ab x*ab v<_ from ⟨p.1,by omega⟩),hi_wB (show 0≤ab u*ab w∧ab u*ab w<_ from ⟨q.1,by omega⟩),Bool.and_self,cond_true,show wB 65536=true from rfl,show decide ((0:Int)<65536)=true from rfl,Bool.true_and]
     have e3:dotS x u v w=x*v+u*w:=rfl
     have g1:(!(decide (x<0)==decide (v<0)))=xorB (ngB x) (ngB v):=rfl
     have g2:(!(decide (u<0)==decide (w<0)))=xorB (ngB u) (ngB w):=rfl
     rw[g1,g2]
     generalize xorB (ngB x) (ngB v)=m at *
     generalize xorB (ngB u) (ngB w)=n at *
     generalize ab x*ab v=P at *
     generalize ab u*ab w=Q at *
     rw[e1,e2] at e3
     generalize dotS x u v w=s at *
     by_cases hmn:m=n
     ·subst hmn
      rw[beq_self_eq_true,cond_true,decide_eq_true (show P+Q<340282366920938463463374607431768211456 by omega),hi_wB (show 0≤P+Q∧P+Q<_ from ⟨by omega,by omega⟩)]
      simp only[Bool.and_self,cond_true]
      exact fit_sign (by rw[e3]; cases m<;>simp[sg]; omega) (by omega) k
     ·rw[beq_eq_false_iff_ne.2 hmn,cond_false]
      have hn:n=!m:=by cases m<;>cases n<;>simp at hmn ⊢
      subst hn
      by_cases hc:Q≤P
      ·rw[decide_eq_true (show cmp3 P Q≥0 by unfold cmp3; repeat' split
                                             all_goals omega),decide_eq_true hc,hi_wB (show 0≤P-Q∧P-Q<_ from ⟨by omega,by omega⟩)]
       simp only[Bool.and_self,cond_true]
       exact fit_sign (by rw[e3]; cases m<;>simp[sg]<;>omega) (by omega) k
      ·rw[decide_eq_false (show ¬cmp3 P Q≥0 by unfold cmp3; repeat' split
                                               all_goals omega),decide_eq_true (show P≤Q by omega),hi_wB (show 0≤Q-P∧Q-P<_ from ⟨by omega,by omega⟩)]
       simp only[Bool.and_self,cond_true,cond_false]
       exact fit_sign (by rw[e3]; cases m<;>simp[sg]<;>omega) (by omega) k
theorem dot0_text (N n:Nat) (α:Type) (x u v w:Int) (k:AOut→Option α):evFn real tab ((twT fsE spB).env real tab N (n+6)) N Tryz.f183 α [sN x u,sN v w,iN 0] k=dotText x u v w 0 k:=by kernel_rfl
theorem dot1_text (N n:Nat) (α:Type) (x u v w:Int) (k:AOut→Option α):evFn real tab ((twT fsE spB).env real tab N (n+6)) N Tryz.f183 α [sN x u,sN v w,iN 1] k=dotText x u v w 1 k:=by kernel_rfl
theorem dot2_text (N n:Nat) (α:Type) (x u v w:Int) (k:AOut→Option α):evFn real tab ((twT fsE spB).env real tab N (n+6)) N Tryz.f183 α [sN x u,sN v w,iN 2] k=dotText x u v w 2 k:=by kernel_rfl
theorem dot3_text (N n:Nat) (α:Type) (x u v w:Int) (k:AOut→Option α):evFn real tab ((twT fsE spB).env real tab N (n+6)) N Tryz.f183 α [sN x u,sN v w,iN 3] k=dotText x u v w 3 k:=by kernel_rfl
theorem dotPS_ok:FspOk Tryz.prog 183 dotPS:=tower_S fsE_ok spB_ok ⟨Tryz.func183,fun _ _=>by kernel_rfl⟩ (by intro α args k; unfold dotPS; split<;>simp only[cond_bind,Option.bind_some,Option.bind_none]) fun args out hs h=>by
 unfold dotPS at h
 split at h
 ·rename_i x u v w how
  cases hw:wayB how
  ·rw[hw] at h; cases h
  ·rw[hw,cond_true] at h
   rcases way_cases hw with rfl|rfl|rfl|rfl
   ·exact⟨8,6,(dot0_text 8 0 AOut x u v w some).trans ((dot_fin ..).trans h)⟩
   ·exact⟨8,6,(dot1_text 8 0 AOut x u v w some).trans ((dot_fin ..).trans h)⟩
   ·exact⟨8,6,(dot2_text 8 0 AOut x u v w some).trans ((dot_fin ..).trans h)⟩
   ·exact⟨8,6,(dot3_text 8 0 AOut x u v w some).trans ((dot_fin ..).trans h)⟩
 ·cases h
/-! Scale. -/
def slP (a n d how:Int):Int:=rndP how (scG a n d) (ab a*ab n) (ab d)
def slOk (a n d:Int):Bool:=okB a&&(rateB n&&rateB d)
def slV (a n d how:Int):Int:=bif slOk a n d then (bif d==0 then 0 else fxV (scG a n d) (slP a n d how)) else 0
def slE (a n d how:Int):Int:=bif slOk a n d then (bif d==0 then 10 else fxE (slP a n d how)) else 2
def scaleS:Fsp:=fun _ args k=>match args with
 | [.int .i64 a,.int .i64 n,.int .i64 d,.int .i64 how]=>bif wayB how then k (i2 (slV a n d how) (slE a n d how)) else none
 |_=>none
def scaleText {α:Type} (x u v how:Int) (k:AOut→Option α):Option α:=
 bif [x].all okB then
  bif decide (u≥-2147483648) then
   bif decide (u≤2147483648) then
    bif decide (v≥-2147483648) then
     bif !(decide (v≤2147483648)) then k (i2 0 2)
     else
      bif !(v != 0) then k (i2 0 10)
      else
       bif i6 x then
        bif i6 u then
         bif wB (ab x)&&wB (ab u) then
          bif i6 v then
           bif wB (hiW (ab x*ab u))&&wB (loW (ab x*ab u))&&wB (ab v)&&decide (0<ab v) then
            fitT (!(decide (x<0)==!(decide (u<0)==decide (v<0)))) (rndP how (!(decide (x<0)==!(decide (u<0)==decide (v<0)))) (vw (hiW (ab x*ab u)) (loW (ab x*ab u))) (ab v)) k
           else none
          else none
         else none
        else none
       else none
    else k (i2 0 2)
   else k (i2 0 2)
  else k (i2 0 2)
 else k (i2 0 2)
theorem rate_ok {n:Int} (h:rateB n=true):okB n=true:=by rw[rate_iff] at h; rw[ok_iff]; omega
theorem scale_fin {α:Type} (x u v how:Int) (k:AOut→Option α):scaleText x u v how k=k (i2 (slV x u v how) (slE x u v how)):=by
 unfold scaleText slV slE slOk
 rw[all1]
 cases hx:okB x
 ·rfl
 ·have r1:rateB u=(decide (u≥-2147483648)&&decide (u≤2147483648)):=rfl
  have r2:rateB v=(decide (v≥-2147483648)&&decide (v≤2147483648)):=rfl
  cases hu:rateB u
  ·rw[hu] at r1
   cases h1:decide (u≥-2147483648)
   ·rfl
   ·rw[h1,Bool.true_and] at r1
    rw[←r1]; rfl
  ·rw[hu] at r1
   have r1:=Bool.and_eq_true_iff.1 r1.symm
   rw[r1.1,r1.2]
   cases hv:rateB v
   ·rw[hv] at r2
    cases h1:decide (v≥-2147483648)
    ·rfl
    ·rw[h1,Bool.true_and] at r2
     rw[←r2]; rfl
   ·rw[hv] at r2
    have r2:=Bool.and_eq_true_iff.1 r2.symm
    rw[r2.1,r2.2]
    by_cases hz:v=0
    ·subst hz; rfl
    ·have hu':=rate_ok hu
     have hv':=rate_ok hv
     have p:=ab_mul_in hx hu'
     have hav:0<ab v:=by unfold ab; split<;>omega
     have hb:(v != 0)=true:=by simp[hz]
     have hb2:(v==0)=false:=by simp[hz]
     simp only[hb,hb2,i6_ok hx,i6_ok hu',i6_ok hv',wB_ab (i6_ok hx),wB_ab (i6_ok hu'),wB_ab (i6_ok hv'),lo_wB,vw_hl,hi_wB (show 0≤ab x*ab u∧ab x*ab u<_ from ⟨p.1,by omega⟩),decide_eq_true hav,Bool.and_self,cond_true,cond_false,Bool.not_true]
     rw[fitT_eq]
     rfl
theorem scale0_text (N n:Nat) (α:Type) (x u v:Int) (k:AOut→Option α):evFn real tab ((twT fsE spB).env real tab N (n+6)) N Tryz.f39 α [iN x,iN u,iN v,iN 0] k=scaleText x u v 0 k:=by kernel_rfl
theorem scale1_text (N n:Nat) (α:Type) (x u v:Int) (k:AOut→Option α):evFn real tab ((twT fsE spB).env real tab N (n+6)) N Tryz.f39 α [iN x,iN u,iN v,iN 1] k=scaleText x u v 1 k:=by kernel_rfl
theorem scale2_text (N n:Nat) (α:Type) (x u v:Int) (k:AOut→Option α):evFn real tab ((twT fsE spB).env real tab N (n+6)) N Tryz.f39 α [iN x,iN u,iN v,iN 2] k=scaleText x u v 2 k:=by kernel_rfl
theorem scale3_text (N n:Nat) (α:Type) (x u v:Int) (k:AOut→Option α):evFn real tab ((twT fsE spB).env real tab N (n+6)) N Tryz.f39 α [iN x,iN u,iN v,iN 3] k=scaleText x u v 3 k:=by kernel_rfl
theorem scaleS_ok:FspOk Tryz.prog 39 scaleS:=tower_S fsE_ok spB_ok ⟨Tryz.func39,fun _ _=>by kernel_rfl⟩ (by intro α args k; unfold scaleS; split<;>simp only[cond_bind,Option.bind_some,Option.bind_none]) fun args out hs h=>by
 unfold scaleS at h
 split at h
 ·rename_i x u v how
  cases hw:wayB how
  ·rw[hw] at h; cases h
  ·rw[hw,cond_true] at h
   rcases way_cases hw with rfl|rfl|rfl|rfl
   ·exact⟨8,6,(scale0_text 8 0 AOut x u v some).trans ((scale_fin ..).trans h)⟩
   ·exact⟨8,6,(scale1_text 8 0 AOut x u v some).trans ((scale_fin ..).trans h)⟩
   ·exact⟨8,6,(scale2_text 8 0 AOut x u v some).trans ((scale_fin ..).trans h)⟩
   ·exact⟨8,6,(scale3_text 8 0 AOut x u v some).trans ((scale_fin ..).trans h)⟩
 ·cases h
noncomputable def fsF:FuncId→Option Fsp:=fun g=>
 if g=185 then some plusPS else
 if g=178 then some minusPS else
 if g=179 then some within1S else
 if g=181 then some uniS else
 if g=184 then some timesS else
 if g=183 then some dotPS else
 if g=39 then some scaleS else
 fsE g
theorem fsF_ok:FsOk fsF:=
 fs_cons plusPS_ok <|
 fs_cons minusPS_ok <|
 fs_cons within1S_ok <|
 fs_cons uniS_ok <|
 fs_cons timesS_ok <|
 fs_cons dotPS_ok <|
 fs_cons scaleS_ok <|
 fsE_ok
noncomputable def spC:FuncId→Option (Cv→Cv):=fun g=>
 if g=30 then some (triedS 108) else
 spB g
theorem spC_ok:SpOk spC:=
 sp_cons (fun cv h caps=>tried_at cotried_tried cv h caps) <|
 spB_ok
def rgB (v m:Int):Bool:=decide (-m≤v)&&decide (v≤m)
def movC (x y sx sy sp:Int):Bool:=rgB x 6553600000&&rgB y 6553600000&&rgB sx 65536000&&rgB sy 65536000&&rgB sp 1000
def movE (x y sx sy sp:Int):Int:=bif movC x y sx sy sp then 0 else 2
def bodB (t n x y sx sy sp:Int):Bool:=(decide (0≤t)&&decide (t≤1))&&(decide (0≤n)&&decide (n≤7))&&movC x y sx sy sp
abbrev mvN (x y sx sy sp:Int):AVal:=.agg [iN x,iN y,iN sx,iN sy,iN sp]
abbrev bdN (t n x y sx sy sp:Int) (o:Bool):AVal:=.agg [iN t,iN n,iN x,iN y,iN sx,iN sy,iN sp,bN o]
def gchkC:Fsp:=fun _ args k=>match args with
 | [.agg [.int .i64 x,.int .i64 y,.int .i64 sx,.int .i64 sy,.int .i64 sp]]=>k (i1 (movE x y sx sy sp))
 |_=>none
theorem gchkC_text (N n:Nat) (α:Type) (x y sx sy sp:Int) (k:AOut→Option α):evFn real tab ((twT fsF spC).env real tab N (n+4)) N Tryz.f119 α [mvN x y sx sy sp] k =
 bif decide (IntKind.i64.wrap (0-6553600000)≤x) then bif decide (x≤6553600000) then bif decide (IntKind.i64.wrap (0-6553600000)≤y) then bif !decide (y≤6553600000) then k
 (i1 2) else bif decide (IntKind.i64.wrap (0-65536000)≤sx) then bif decide (sx≤65536000) then bif decide (IntKind.i64.wrap (0-65536000)≤sy) then bif !decide (sy≤65536000)
 then k (i1 2) else bif decide (-1000≤sp) then bif !decide (sp≤1000) then k (i1 2) else k (i1 0) else k (i1 2) else k (i1 2) else k (i1 2) else k (i1 2) else k (i1 2) else k (i1
 2) else k (i1 2):=by kernel_rfl
theorem gchkC_ok:FspOk Tryz.prog 119 gchkC:=tower_S fsF_ok spC_ok ⟨Tryz.func119,fun _ _=>by kernel_rfl⟩ (by intro α args k; unfold gchkC; split<;>rfl) fun args out hs h=>by
 unfold gchkC at h
 split at h
 ·rename_i x y sx sy sp
  refine⟨8,4,(gchkC_text 8 0 AOut x y sx sy sp some).trans (Eq.trans ?_ h)⟩
  rw[i64w (0-6553600000) (by omega),i64w (0-65536000) (by omega)]
  unfold movE movC rgB
  simp only[show (0:Int)-6553600000=-6553600000 from rfl,show (0:Int)-65536000=-65536000 from rfl]
  cases decide (-6553600000≤x)<;>cases decide (x≤6553600000)<;>cases decide (-6553600000≤y)<;>cases decide (y≤6553600000)<;>cases decide (-65536000≤sx)<;>cases decide (sx≤65536000)<;>cases decide (-65536000≤sy)<;>cases decide (sy≤65536000)<;>cases decide (-1000≤sp)<;>cases decide (sp≤1000)<;>rfl
 ·cases h
noncomputable def fsG:FuncId→Option Fsp:=fun g=>
 if g=119 then some gchkC else
 fsF g
theorem fsG_ok:FsOk fsG:=
 fs_cons gchkC_ok <|
 fsF_ok
def validS:Fsp:=fun _ args k=>match args with
 | [.agg [.int .i64 t,.int .i64 n,.int .i64 x,.int .i64 y,.int .i64 sx,.int .i64 sy,.int .i64 sp,.bool _]]=>k (b1 (bodB t n x y sx sy sp))
 |_=>none
def tchB (x y u v:Int) (o p:Bool):Bool:=!o&&(!p&&(witV (miX u v x y) (miY u v x y) 19005440&&!(miX u v x y==0&&miY u v x y==0)))
def touchS:Fsp:=fun _ args k=>match args with
 | [.agg [.int .i64 _,.int .i64 _,.int .i64 x,.int .i64 y,.int .i64 _,.int .i64 _,.int .i64 _,.bool o],.agg [.int .i64 _,.int .i64 _,.int .i64 u,.int .i64 v,.int .i64 _,.int .i64 _,.int .i64 _,.bool p]]=>k (b1 (tchB x y u v o p))
 |_=>none
def comis (e:Int):AOut:=.pan (.ifc 108 (.agg [.int .i64 e]))
def mustSS:Fsp:=fun _ args k=>match args with
 | [.agg [.int .i64 x,.int .i64 y],.int .i64 e]=>bif e != 0 then k (comis e) else k (.ret (sN x y))
 |_=>none
def mustFS:Fsp:=fun _ args k=>match args with
 | [.int .i64 x,.int .i64 e]=>bif e != 0 then k (comis e) else k (i1 x)
 |_=>none
theorem valid_text (N n:Nat) (α:Type) (t m x y sx sy sp:Int) (o:Bool) (k:AOut→Option α):evFn real tab ((twT fsG spC).env real tab N (n+4)) N Tryz.f61 α [bdN t m x y sx sy sp o] k =
 bif decide (0≤t) then bif decide (t≤1) then bif decide (0≤m) then bif decide (m≤7) then k (b1 (movE x y sx sy sp==0)) else k (b1 false) else k (b1 false) else k (b1 false)
 else k (b1 false):=by kernel_rfl
theorem validS_ok:FspOk Tryz.prog 61 validS:=tower_S fsG_ok spC_ok ⟨Tryz.func61,fun _ _=>by kernel_rfl⟩ (by intro α args k; unfold validS; split<;>rfl) fun args out hs h=>by
 unfold validS at h
 split at h
 ·rename_i t n x y sx sy sp o
  refine⟨8,4,(valid_text 8 0 AOut t n x y sx sy sp o some).trans (Eq.trans ?_ h)⟩
  unfold bodB movE
  cases decide (0≤t)<;>cases decide (t≤1)<;>cases decide (0≤n)<;>cases decide (n≤7)<;>cases movC x y sx sy sp<;>rfl
 ·cases h
theorem touch_text (N n:Nat) (α:Type) (a1 a2 x y a3 a4 a5:Int) (o:Bool) (c1 c2 u v c3 c4 c5:Int) (p:Bool) (k:AOut→Option α):evFn real tab ((twT fsG spC).env real tab N (n+4)) N Tryz.f145 α [bdN a1 a2 x y a3 a4 a5 o,bdN c1 c2 u v c3 c4 c5 p] k =
 bif !o then bif !p then bif witV (miX u v x y) (miY u v x y) 19005440 then k (b1 !(miX u v x y==0&&(miY u v x y==0&&true))) else k (b1 false) else k (b1 false) else k (b1
 false):=by kernel_rfl
theorem touchS_ok:FspOk Tryz.prog 145 touchS:=tower_S fsG_ok spC_ok ⟨Tryz.func145,fun _ _=>by kernel_rfl⟩ (by intro α args k; unfold touchS; split<;>rfl) fun args out hs h=>by
 unfold touchS at h
 split at h
 ·rename_i a1 a2 x y a3 a4 a5 o c1 c2 u v c3 c4 c5 p
  refine⟨8,4,(touch_text 8 0 AOut a1 a2 x y a3 a4 a5 o c1 c2 u v c3 c4 c5 p some).trans (Eq.trans ?_ h)⟩
  unfold tchB
  rw[Bool.and_true]
  cases o<;>cases p<;>cases witV (miX u v x y) (miY u v x y) 19005440<;>rfl
 ·cases h
theorem mustS_text (N n:Nat) (α:Type) (x y e:Int) (k:AOut→Option α):evFn real tab ((twT fsG spC).env real tab N (n+4)) N Tryz.f180 α [sN x y,iN e] k=bif e != 0 then k (comis e) else k (.ret (sN x y)):=by kernel_rfl
theorem mustSS_ok:FspOk Tryz.prog 180 mustSS:=tower_S fsG_ok spC_ok ⟨Tryz.func180,fun _ _=>by kernel_rfl⟩ (by intro α args k; unfold mustSS; split<;>simp only[cond_bind,Option.bind_some,Option.bind_none]) fun args out hs h=>by
 unfold mustSS at h
 split at h
 ·exact⟨8,4,(mustS_text 8 0 AOut _ _ _ some).trans h⟩
 ·cases h
theorem mustF_text (N n:Nat) (α:Type) (x e:Int) (k:AOut→Option α):evFn real tab ((twT fsG spC).env real tab N (n+4)) N Tryz.f182 α [iN x,iN e] k=bif e != 0 then k (comis e) else k (i1 x):=by kernel_rfl
theorem mustFS_ok:FspOk Tryz.prog 182 mustFS:=tower_S fsG_ok spC_ok ⟨Tryz.func182,fun _ _=>by kernel_rfl⟩ (by intro α args k; unfold mustFS; split<;>simp only[cond_bind,Option.bind_some,Option.bind_none]) fun args out hs h=>by
 unfold mustFS at h
 split at h
 ·exact⟨8,4,(mustF_text 8 0 AOut _ _ some).trans h⟩
 ·cases h
theorem walk_of {P:Program} {f:FuncId} {S:Fsp} (h:FspOk P f S) {args:List AVal} {v:AVal} (hS:S AOut args some=some (.ret v)) (hp:args.all AVal.p1=true) (hv:v.p1=true) (w:World) :
  Calls P f (args.map AVal.v1).toArray w fun e w'=>e=.returned v.v1∧Below w.heap.size w w':=by
 refine (h.calls args _ hS (fun _=>False) w _ (fun _ hb=>hb.elim) (by simp) fun j c x hc hx=>?_).mono ?_
 ·simp[hc] at hx
  subst hx
  exact rep_v1 (List.all_eq_true.1 hp c (List.mem_of_getElem? hc))
 ·rintro e w' ⟨M',_,_,_,hb,x,rfl,hr⟩
  exact⟨by rw[rep_p1 hr hv],hb⟩
theorem Hid.mk' {p:Prop} (h:p):Hid p:=h
namespace Ck
theorem lt_of_cell {w:World} {b o:Nat} {s:Option Nat} {v:Value} (h:w.cell? ⟨b,o,s⟩=some v):b<w.heap.size:=by
 rcases Nat.lt_or_ge b w.heap.size with hb|hb
 ·exact hb
 ·simp[World.cell?,Array.getElem?_eq_none hb] at h
structure Bod where
 team:Int
 n:Int
 ax:Int
 ay:Int
 sx:Int
 sy:Int
 spin:Int
 out:Bool
def Bod.cells (b:Bod):Array Value:=#[.int .i64 b.team,.int .i64 b.n,.int .i64 b.ax,.int .i64 b.ay,.int .i64 b.sx,.int .i64 b.sy,.int .i64 b.spin,.bool b.out]
def Bod.ok (b:Bod):Bool:=bodB b.team b.n b.ax b.ay b.sx b.sy b.spin
def Bod.rests (b:Bod):Bool:=b.sx==0&&b.sy==0
def errB (b:Bool):Int:=bif b then 0 else 2
theorem bvalid_c (b:Bod) (w:World) :
  Calls Tryz.prog 61 #[.agg b.cells] w fun e w'=>e=.returned (.bool b.ok)∧Below w.heap.size w w':=
 walk_of validS_ok (args:=[bdN b.team b.n b.ax b.ay b.sx b.sy b.spin b.out]) rfl rfl rfl w
theorem two_new {w w1:World} {c1 c2:Array Value} {t1 t2:TypeId} (hb:Below ((w.alloc (.cells c1 t1)).alloc (.cells c2 t2)).heap.size ((w.alloc (.cells c1 t1)).alloc (.cells c2 t2)) w1) :
  (∀i,w1.cell? ⟨w.heap.size,i,none⟩=c1[i]?)∧(∀i,w1.cell? ⟨w.heap.size+1,i,none⟩=c2[i]?)∧(∀i,w1.frozen? ⟨w.heap.size,i,none⟩=false)∧(∀i,w1.frozen? ⟨w.heap.size+1,i,none⟩=false)∧w.heap.size+1<w1.heap.size:=by
 refine⟨fun i=>?_,fun i=>?_,fun i=>?_,fun i=>?_,?_⟩
 ·rw[hb.cell (p:=⟨w.heap.size,i,none⟩) (by simp; omega)]; simp[go_sem]
 ·rw[hb.cell (p:=⟨w.heap.size+1,i,none⟩) (by simp)]; simp[go_sem]
 ·rw[hb.frozen (p:=⟨w.heap.size,i,none⟩) (by simp; omega)]; simp[go_sem]
 ·rw[hb.frozen (p:=⟨w.heap.size+1,i,none⟩) (by simp)]; simp[go_sem]
 ·have:=hb.size; simp at this; omega
theorem brests_c (b:Bod) (w:World) :
  Calls Tryz.prog 86 #[.agg b.cells] w fun e w'=>e=.returned (.bool b.rests)∧Below w.heap.size w w':=by
 obtain⟨team,n,ax,ay,sx,sy,spin,out⟩:=b
 unfold Bod.rests Bod.cells
 simp only
 go_enter Tryz.func86,Tryz.ntmps86
 go_wp2_with fail
 all_goals
  go_ret
  exact⟨by simp[*],(Below.refl _ _).alloc (Nat.le_refl _) _⟩
abbrev keyV (a b:Int):Value:=.agg #[.int .i64 a,.int .i64 b]
theorem equalIn_int (d:Nat) (a c:Int) (w:World):(Op.equalIn (d+1) 3 (.int .i64 a) (.int .i64 c)).run Tryz.prog w=.ok (a==c) w:=by
 simp[Op.equalIn,run_underlying Tryz.underlying3]
theorem part_0 (x y:Value) (w:World):(part 3 #[x,y] 0).run Tryz.prog w=.ok x w:=by kernel_rfl
theorem part_1 (x y:Value) (w:World):(part 3 #[x,y] 1).run Tryz.prog w=.ok y w:=by kernel_rfl
theorem size_int (w:World):(sizeOf 3).run Tryz.prog w=.ok 1 w:=by kernel_rfl
theorem equalIn_key (d:Nat) (a b c e:Int) (w:World):(Op.equalIn (d+2) 173 (keyV a b) (keyV c e)).run Tryz.prog w=.ok (a==c&&b==e) w:=by
 have h1:=fun a c=>equalIn_int d a c w
 rw[Op.equalIn]
 generalize Op.equalIn (d+1)=f at *
 simp only[Sem.run_bind,run_underlying Tryz.underlying173,Result.andThen_ok,size_int,Std.Legacy.Range.forIn_eq_forIn_range',List.range',List.forIn_cons,List.forIn_nil]
 have hr:List.range' 0 2=[0,1]:=rfl
 simp[hr,part_0,part_1,h1,Sem.run_bind]
 by_cases h2:a=c
 ·by_cases h3:b=e
  ·simp[h2,h3,part_0,part_1,h1,Sem.run_bind]
  ·simp[h2,h3,part_0,part_1,h1,Sem.run_bind]
 ·simp[h2,part_0,part_1,h1,Sem.run_bind]
theorem equal_key (a b c e:Int) (w:World):(Op.equal 173 (keyV a b) (keyV c e)).run Tryz.prog w=.ok (a==c&&b==e) w:=by
 simp only[Op.equal,Op.maxDepth]
 exact equalIn_key 9998 a b c e w
theorem check_key (e:Bool) (a b:Int) (w:World):(Instr.checkKey e 10000 173 (keyV a b)).run Tryz.prog w=.ok () w:=by
 cases e<;>kernel_rfl
def NamesMap (w:World) (B:Nat) (ks:List (Int × Int)):Prop:=
 ∃es clock,w.heap[B]?=some (.map es clock)∧es.toList.map (·.key)=ks.map (fun k=>keyV k.1 k.2)∧∀e∈es.toList,e.val=.bool true
theorem findAsking_names (a b:Int) (w:World):∀(es:List MapEntry) (ks:List (Int × Int)) (i:Nat),es.map (·.key)=ks.map (fun k=>keyV k.1 k.2)→(∀e∈es,e.val=.bool true) →
  ((a,b) ∉ ks→(Instr.findAsking 173 (keyV a b) es i).run Tryz.prog w=.ok none w) ∧
  ((a,b)∈ks→∃j,(Instr.findAsking 173 (keyV a b) es i).run Tryz.prog w=.ok (some (j,.bool true)) w)
 | [],[],i,_,_=>by simp[Instr.findAsking]
 | [],_::_,_,h,_=>by simp at h
 |_::_,[],_,h,_=>by simp at h
 |e::es,(c,d)::ks,i,h,hv=>by
  simp only[List.map_cons,List.cons.injEq] at h
  obtain⟨hk,hr⟩:=h
  obtain⟨h1,h2⟩:=findAsking_names a b w es ks (i+1) hr (fun x hx=>hv x (List.mem_cons_of_mem _ hx))
  have hval:=hv e (List.mem_cons_self ..)
  have heq:=equal_key a b c d w
  rw[←hk] at heq
  constructor
  ·intro hn
   simp only[List.mem_cons,not_or] at hn
   have hne:(a==c&&b==d)=false:=by
    have:=hn.1
    simp only[Prod.mk.injEq,not_and] at this
    by_cases hac:a=c
    ·simp[hac,this hac]
    ·simp[hac]
   rw[hne] at heq
   simp[Instr.findAsking,Sem.run_bind,heq,h1 hn.2]
  ·intro hm
   by_cases hc:a=c∧b=d
   ·obtain⟨rfl,rfl⟩:=hc
    have:(a==a&&b==b)=true:=by simp
    rw[this] at heq
    exact⟨i,by simp[Instr.findAsking,Sem.run_bind,heq,hval]⟩
   ·have hne:(a==c&&b==d)=false:=by
     by_cases hac:a=c
     ·have:¬b=d:=fun h=>hc ⟨hac,h⟩
      simp[this]
     ·simp[hac]
    rw[hne] at heq
    have hm':(a,b)∈ks:=by
     rcases List.mem_cons.1 hm with h|h
     ·simp only[Prod.mk.injEq] at h; exact absurd h hc
     ·exact h
    obtain⟨j,hj⟩:=h2 hm'
    exact⟨j,by simp[Instr.findAsking,Sem.run_bind,heq,hj]⟩
theorem findKey_names (a b:Int) (w:World) (es:List MapEntry) (ks:List (Int × Int)) (h:es.map (·.key)=ks.map (fun k=>keyV k.1 k.2)) (hv:∀e∈es,e.val=.bool true) :
  ((a,b) ∉ ks→(Instr.findKey 173 (keyV a b) es).run Tryz.prog w=.ok none w) ∧
  ((a,b)∈ks→∃j,(Instr.findKey 173 (keyV a b) es).run Tryz.prog w=.ok (some (j,.bool true)) w):=by
 obtain⟨h1,h2⟩:=findAsking_names a b w es ks 0 h hv
 unfold Instr.findKey
 simp only[Sem.run_bind,run_underlying Tryz.underlying173,Result.andThen_ok]
 cases es with
 |nil=>
  cases ks with
  |nil=>simp[Instr.findNow]
  |cons _ _=>simp at h
 |cons e es=>
  have hn:∀d,Instr.findNow (.array 2 d) (keyV a b) (e::es) 0=none:=by
   intro d
   simp[Instr.findNow,Instr.sameNow]
  simp only[hn]
  exact⟨h1,h2⟩
theorem zero_bool (w:World):(zeroValue 4).run Tryz.prog w=.ok (.bool false) w:=by kernel_rfl
theorem names_lookup {w:World} {B:Nat} {ks:List (Int × Int)} (h:NamesMap w B ks) (a b:Int) :
  (Instr.lookup 172 (.map (some B)) (keyV a b) false).run Tryz.prog w=.ok (.bool (decide ((a,b)∈ks))) w:=by
 obtain⟨es,clock,hb,hk,hv⟩:=h
 obtain⟨h1,h2⟩:=findKey_names a b w es.toList ks hk hv
 unfold Instr.lookup
 simp only[Sem.run_bind,run_underlying Tryz.underlying172,Result.andThen_ok,MapKept.run_getObj_map hb,Sem.run_pure,check_key]
 by_cases hm:(a,b)∈ks
 ·obtain⟨j,hj⟩:=h2 hm
  simp[hj,hm]
 ·simp[h1 hm,hm,zero_bool]
theorem names_update {w:World} {B:Nat} {ks:List (Int × Int)} (h:NamesMap w B ks) (a b:Int) (hn:(a,b) ∉ ks) :
  ∃w',(Instr.mapUpdate 172 (.map (some B)) (keyV a b) (.bool true)).run Tryz.prog w=.ok () w'∧NamesMap w' B (ks++[(a,b)])∧w.grownBy w' (some B):=by
 obtain⟨es,clock,hb,hk,hv⟩:=h
 obtain⟨h1,-⟩:=findKey_names a b w es.toList ks hk hv
 refine⟨ChangeMaps.setBlock w B (.map (es.push { key:=keyV a b,val:=.bool true,born:=clock }) (clock+1)),?_,⟨_,_,ChangeMaps.heap_setBlock_same hb _,?_,?_⟩,⟨rfl,rfl,rfl,by simp[ChangeMaps.setBlock],fun i _ hi=>ChangeMaps.heap_setBlock_other hb _ (fun e=>hi (by rw[e]))⟩⟩
 ·unfold Instr.mapUpdate
  simp[Sem.run_bind,run_underlying Tryz.underlying172,MapKept.run_getObj_map hb,check_key,h1 hn,MapKept.run_setObj_map _ hb,Result.andThen,ChangeMaps.setBlock]
 ·simp[hk]
 ·intro e he
  simp only[Array.toList_push,List.mem_append,List.mem_singleton] at he
  rcases he with he|rfl
  ·exact hv e he
  ·rfl
theorem wpList_names {P:Program} (hP:P=Tryz.prog) (w:World) {ops:Array Oper} {rest:List Oper} {o:Oper} {a:Act} {Q:Exit→Act→World→Prop}
  (hg:o.guard=none) (m x v:Operand) (hop:o.op=Op.mapUpdate 172 m x v) (B:Nat) (ks:List (Int × Int)) (c d:Int)
  (hm:a.eval m=.map (some B)) (hx:a.eval x=keyV c d) (hv:a.eval v=.bool true) (hown:NamesMap w B ks) (hn:(c,d) ∉ ks)
  (hK:∀w',NamesMap w' B (ks++[(c,d)])→w.grownBy w' (some B)→wpList P ops Q rest (a.put o.dst undef) w') :
  wpList P ops Q (o::rest) a w:=by
 subst hP
 refine wpList_plain hg fun K' hK'=>?_
 obtain⟨w',hrun,r1,r2⟩:=names_update hown c d hn
 unfold Oper.wp
 simp[execOp,hop,hm,hx,hv,hrun,Result.andThen]
 exact hK' _ _ (hK w' r1 r2)
theorem NamesMap.kept {w w':World} {B:Nat} {ks:List (Int × Int)} (h:NamesMap w B ks) (hb:w'.heap[B]?=w.heap[B]?):NamesMap w' B ks:=by
 obtain⟨es,clock,h1,h2⟩:=h
 exact⟨es,clock,hb.trans h1,h2⟩
theorem NamesMap.lt {w:World} {B:Nat} {ks:List (Int × Int)} (h:NamesMap w B ks):B<w.heap.size:=by
 obtain⟨es,clock,h1,_⟩:=h
 exact (Array.getElem?_eq_some_iff.1 h1).1
theorem NamesMap.below {w w':World} {B C:Nat} {ks:List (Int × Int)} (h:NamesMap w B ks) (hb:Below C w w') (hc:B<C):NamesMap w' B ks:=h.kept (hb.block B hc)
theorem names_made (w:World):NamesMap (w.alloc (.map #[] 0)) w.heap.size []:=
 ⟨#[],0,by show (w.heap.push _)[w.heap.size]?=_; simp,rfl,by simp⟩
def Bods (w:World) (v:Value) (bs:List Bod):Prop:=
 (∃p cap,v=.slice p 0 cap∧bs=[]) ∨
 (∃b off cap,v=.slice (some ⟨b,off,none⟩) bs.length cap∧0<bs.length∧bs.length≤9223372036854775807∧∀(i:Nat) (x:Bod),bs[i]?=some x→∀j,j<8→w.cell? ⟨b,off+i*8+j,none⟩=x.cells[j]?)
def Bod.name (b:Bod):Int × Int:=(b.team,b.n)
def Bod.bad (before:List Bod) (b:Bod):Bool:=!b.ok || (decide (b.name∈before.map Bod.name) || (b.out&&(!b.rests || b.spin != 0)))
def bodsOk (before:List Bod):List Bod→Bool
 | []=>true
 |b::r=>!b.bad before&&bodsOk (before++[b]) r
def sceneB (bs:List Bod):Bool:=decide (bs.length≤16)&&bodsOk [] bs
theorem bad_1 {l:List Bod} {x:Bod} (h:x.ok=false):x.bad l=true:=by simp[Bod.bad,h]
theorem bad_2 {l:List Bod} {x:Bod} (h:decide (x.name∈l.map Bod.name)=true):x.bad l=true:=by unfold Bod.bad; rw[h]; simp
theorem bad_3 {l:List Bod} {x:Bod} (h1:x.out=true) (h:x.rests=false):x.bad l=true:=by simp[Bod.bad,h1,h]
theorem bad_4 {l:List Bod} {x:Bod} (h1:x.out=true) (h:(x.spin != 0)=true):x.bad l=true:=by unfold Bod.bad; rw[h1,h]; simp
theorem good_1 {l:List Bod} {x:Bod} (h1:x.ok=true) (h2:decide (x.name∈l.map Bod.name)=false) (h3:x.out=false):x.bad l=false:=by unfold Bod.bad; rw[h1,h2,h3]; rfl
theorem good_2 {l:List Bod} {x:Bod} (h1:x.ok=true) (h2:decide (x.name∈l.map Bod.name)=false) (h3:x.rests=true) (h4:x.spin=0):x.bad l=false:=by unfold Bod.bad; rw[h1,h2,h3,h4]; simp
set_option maxHeartbeats 2000000 in
theorem ccheck_c (bs:List Bod) (v:Value) (w:World) (hv:Bods w v bs) :
  Calls Tryz.prog 34 #[v] w fun e w'=>e=.returned (.int .i64 (errB (sceneB bs)))∧Below w.heap.size w w':=by
 have hmm:=@run_makeMap Tryz.prog
 by_cases hl:bs.length≤16
 case neg=>
  have hS:sceneB bs=false:=by simp[sceneB,hl]
  rw[hS]
  rcases hv with ⟨_,_,_,rfl⟩|⟨b,off,cap,rfl,h0,h1,h2⟩
  ·simp at hl
  ·have hd:decide ((16:Int)<(bs.length:Int))=true:=by simp only[decide_eq_true_eq]; omega
   clear h2 hS
   go_enter Tryz.func34,Tryz.ntmps34
   go_wp2_with fail
   go_ret
   exact⟨rfl,Below.refl _ _⟩
 have hS:sceneB bs=bodsOk [] bs:=by simp[sceneB,hl]
 have HS:=Hid.mk' hS
 clear hS
 have hd:decide ((16:Int)<(bs.length:Int))=false:=by simp only[decide_eq_false_iff_not]; omega
 rcases hv with ⟨q,cap,rfl,rfl⟩|⟨b,off,cap,rfl,h0,h1,h2⟩
 ·go_enter Tryz.func34,Tryz.ntmps34
  go_wp2_with fail
  go_loop [5,6,13] (fun _ _ i=>i=.int .i64 0) (fun _ _ _=>0)
  case atStart=>rfl
  case round=>
   subst hrel
   go_wp2_with fail
   go_ret
   exact⟨by rw[HS.out]; rfl,(Below.refl _ _).alloc (Nat.le_refl _) _⟩
 have hblt:b<w.heap.size:=by
  obtain⟨x,hx⟩:∃x,bs[0]?=some x:=⟨_,List.getElem?_eq_getElem h0⟩
  exact lt_of_cell (h2 0 x hx 0 (by omega))
 have H2:=Hid.mk' h2
 clear h2
 generalize hn:bs.length=n at *
 have HN:=Hid.mk' hn
 clear hn
 go_enter Tryz.func34,Tryz.ntmps34
 go_wp2_with fail
 go_loopw [5,6,13] (fun _ _ i wr=>∃k:Nat,k≤n∧i=.int .i64 k∧NamesMap wr w.heap.size ((bs.take k).map Bod.name)∧Below w.heap.size w wr∧Hid (bodsOk [] bs=bodsOk (bs.take k) (bs.drop k))) (fun _ _ i _=>n-(intOf i).toNat)
 case atStart=>exact⟨0,Nat.zero_le _,rfl,names_made w,(Below.refl _ _).alloc (Nat.le_refl _) _,rfl⟩
 case round=>
  obtain⟨k,hk,rfl,hmap,hbel,hok⟩:=hrel
  by_cases hlt:k<n
  case neg=>
   have hkn:k=n:=by omega
   have hfin:bodsOk [] bs=true:=by rw[hok.out,hkn,←HN.out,List.drop_length]; rfl
   have HF:=Hid.mk' hfin
   clear hfin hkn hok
   go_wp2_with fail
   go_ret
   exact⟨by rw[HS.out,HF.out]; rfl,hbel⟩
  obtain⟨x,hx⟩:∃x,bs[k]?=some x:=⟨_,List.getElem?_eq_getElem (by rw[HN.out]; exact hlt)⟩
  have hdrop:bs.drop k=x::bs.drop (k+1):=by
   rw[List.drop_eq_getElem_cons (by rw[HN.out]; exact hlt)]
   rw[List.getElem?_eq_getElem (by rw[HN.out]; exact hlt),Option.some.injEq] at hx
   rw[hx]
  have htake:bs.take (k+1)=bs.take k++[x]:=by
   rw[List.take_add_one,hx]; rfl
  have hstep:bodsOk [] bs=(!x.bad (bs.take k)&&bodsOk (bs.take (k+1)) (bs.drop (k+1))):=by
   rw[hok.out,hdrop,htake]; rfl
  have HST:=Hid.mk' hstep
  have HTK:=Hid.mk' htake
  have hc:=fun j (hj:j<8)=>(hbel.cell (p:=⟨b,off+k*8+j,none⟩) hblt).trans (H2.out k x hx j hj)
  clear hstep htake hdrop hok hx
  obtain⟨team,num,ax,ay,sx,sy,spin,out⟩:=x
  have c0:=hc 0 (by omega)
  have c1:=hc 1 (by omega)
  have c2:=hc 2 (by omega)
  have c3:=hc 3 (by omega)
  have c4:=hc 4 (by omega)
  have c5:=hc 5 (by omega)
  have c6:=hc 6 (by omega)
  have c7:=hc 7 (by omega)
  simp only[Bod.cells,List.getElem?_toArray,List.getElem?_cons_zero,List.getElem?_cons_succ,Nat.add_zero] at c0 c1 c2 c3 c4 c5 c6 c7
  clear hc
  cases e1:Bod.ok ⟨team,num,ax,ay,sx,sy,spin,out⟩
  case false=>
   have HOK:=Hid.mk' e1
   have HMEM:Hid (decide ((team,num)∈(bs.take k).map Bod.name)=decide ((team,num)∈(bs.take k).map Bod.name)):=rfl
   have HBF:Hid (bodsOk [] bs=false):=by show _=_; rw[HST.out,bad_1 HOK.out]; rfl
   clear e1
   go_wp2_with (go_at_call 61; refine (bvalid_c ⟨team,num,ax,ay,sx,sy,spin,out⟩ _).mono ?_; rintro e w1 ⟨rfl,hb1⟩; rw[HOK.out]; obtain⟨hc1,hc2,hf1,hf2,hz⟩:=two_new hb1; have d0:=hc2 0; have d1:=hc2 1; have d2:=hc2 2; have d3:=hc2 3; have d4:=hc2 4; have d5:=hc2 5; have d6:=hc2 6; have d7:=hc2 7; have hbw:Below wr.heap.size wr w1:=(((Below.refl _ _).alloc (Nat.le_refl _) _).alloc (by simp) _).trans (hb1.mono (by simp<;>omega)); have hm1:=hmap.below hbw hmap.lt; have hlk:=names_lookup hm1 team num; rw[HMEM.out] at hlk; clear hc1 hc2 hf1 hf2)
   go_ret
   exact⟨by rw[HS.out,HBF.out]; rfl,hbel.trans (hbw.mono hbel.size)⟩
  have HOK:=Hid.mk' e1
  clear e1
  cases e2:decide ((team,num)∈(bs.take k).map Bod.name)
  case true=>
   have HMEM:=Hid.mk' e2
   have HBF:Hid (bodsOk [] bs=false):=by show _=_; rw[HST.out,bad_2 HMEM.out]; rfl
   clear e2
   go_wp2_with (go_at_call 61; refine (bvalid_c ⟨team,num,ax,ay,sx,sy,spin,out⟩ _).mono ?_; rintro e w1 ⟨rfl,hb1⟩; rw[HOK.out]; obtain⟨hc1,hc2,hf1,hf2,hz⟩:=two_new hb1; have d0:=hc2 0; have d1:=hc2 1; have d2:=hc2 2; have d3:=hc2 3; have d4:=hc2 4; have d5:=hc2 5; have d6:=hc2 6; have d7:=hc2 7; have hbw:Below wr.heap.size wr w1:=(((Below.refl _ _).alloc (Nat.le_refl _) _).alloc (by simp) _).trans (hb1.mono (by simp<;>omega)); have hm1:=hmap.below hbw hmap.lt; have hlk:=names_lookup hm1 team num; rw[HMEM.out] at hlk; clear hc1 hc2 hf1 hf2)
   go_ret
   exact⟨by rw[HS.out,HBF.out]; rfl,hbel.trans (hbw.mono hbel.size)⟩
  have HMEM:=Hid.mk' e2
  clear e2
  cases out
  case false=>
   have HBG:Hid (bodsOk [] bs=bodsOk (bs.take (k+1)) (bs.drop (k+1))):=by show _=_; rw[HST.out,good_1 HOK.out HMEM.out rfl]; rfl
   have HNM:Hid ((team,num) ∉ (bs.take k).map Bod.name):=of_decide_eq_false HMEM.out
   have HKS:Hid ((bs.take (k+1)).map Bod.name=(bs.take k).map Bod.name++[(team,num)]):=by
    show _=_
    rw[HTK.out,List.map_append]; rfl
   go_wp2_with (first
    |(go_at_call 61; refine (bvalid_c ⟨team,num,ax,ay,sx,sy,spin,false⟩ _).mono ?_; rintro e w1 ⟨rfl,hb1⟩; rw[HOK.out]; obtain⟨hc1,hc2,hf1,hf2,hz⟩:=two_new hb1; have d0:=hc2 0; have d1:=hc2 1; have d2:=hc2 2; have d3:=hc2 3; have d4:=hc2 4; have d5:=hc2 5; have d6:=hc2 6; have d7:=hc2 7; have hbw:Below wr.heap.size wr w1:=(((Below.refl _ _).alloc (Nat.le_refl _) _).alloc (by simp) _).trans (hb1.mono (by simp<;>omega)); have hm1:=hmap.below hbw hmap.lt; have hlk:=names_lookup hm1 team num; rw[HMEM.out] at hlk; clear hc1 hc2 hf1 hf2)
    |(at_mapUpdate; refine wpList_names rfl _ rfl _ _ _ rfl w.heap.size ((bs.take k).map Bod.name) team num rfl rfl rfl hm1 HNM.out ?_; intro w3 hm3 hg3))
   go_roundw
   case rel=>exact⟨k+1,by omega,by go_num,by rw[HKS.out]; exact hm3,(hbel.trans (hbw.mono hbel.size)).grown hg3 (by have:=hbw.size; have:=hbel.size; omega) (fun q hq=>by cases hq; exact Nat.le_refl _),HBG.out⟩
   case measure=>simp[intOf]; omega
  cases e3:Bod.rests ⟨team,num,ax,ay,sx,sy,spin,true⟩
  case false=>
   have HR:=Hid.mk' e3
   have HBF:Hid (bodsOk [] bs=false):=by show _=_; rw[HST.out,bad_3 rfl HR.out]; rfl
   clear e3
   go_wp2_with (first
    |(go_at_call 61; refine (bvalid_c ⟨team,num,ax,ay,sx,sy,spin,true⟩ _).mono ?_; rintro e w1 ⟨rfl,hb1⟩; rw[HOK.out]; obtain⟨hc1,hc2,hf1,hf2,hz⟩:=two_new hb1; have d0:=hc2 0; have d1:=hc2 1; have d2:=hc2 2; have d3:=hc2 3; have d4:=hc2 4; have d5:=hc2 5; have d6:=hc2 6; have d7:=hc2 7; have hbw:Below wr.heap.size wr w1:=(((Below.refl _ _).alloc (Nat.le_refl _) _).alloc (by simp) _).trans (hb1.mono (by simp<;>omega)); have hm1:=hmap.below hbw hmap.lt; have hlk:=names_lookup hm1 team num; rw[HMEM.out] at hlk; clear hc1 hc2 hf1 hf2)
    |(go_at_call 86; refine (brests_c ⟨team,num,ax,ay,sx,sy,spin,true⟩ _).mono ?_; rintro e w2 ⟨rfl,hb2⟩; rw[HR.out]; have f0:=(hb2.cell (p:=⟨wr.heap.size+1,0,none⟩) hz).trans d0; have f1:=(hb2.cell (p:=⟨wr.heap.size+1,1,none⟩) hz).trans d1; have f6:=(hb2.cell (p:=⟨wr.heap.size+1,6,none⟩) hz).trans d6; have hm2:=hm1.below hb2 hm1.lt; clear d0 d1 d2 d3 d4 d5 d6 d7 hlk))
   go_ret
   exact⟨by rw[HS.out,HBF.out]; rfl,(hbel.trans (hbw.mono hbel.size)).trans (hb2.mono (by have:=hbw.size; have:=hbel.size; omega))⟩
  have HR:=Hid.mk' e3
  clear e3
  by_cases hs:spin=0
  case neg=>
   have hsb:(spin != 0)=true:=by simpa using hs
   have HSB:=Hid.mk' hsb
   have HBF:Hid (bodsOk [] bs=false):=by show _=_; rw[HST.out,bad_4 rfl HSB.out]; rfl
   clear hs
   go_wp2_with (first
    |(go_at_call 61; refine (bvalid_c ⟨team,num,ax,ay,sx,sy,spin,true⟩ _).mono ?_; rintro e w1 ⟨rfl,hb1⟩; rw[HOK.out]; obtain⟨hc1,hc2,hf1,hf2,hz⟩:=two_new hb1; have d0:=hc2 0; have d1:=hc2 1; have d2:=hc2 2; have d3:=hc2 3; have d4:=hc2 4; have d5:=hc2 5; have d6:=hc2 6; have d7:=hc2 7; have hbw:Below wr.heap.size wr w1:=(((Below.refl _ _).alloc (Nat.le_refl _) _).alloc (by simp) _).trans (hb1.mono (by simp<;>omega)); have hm1:=hmap.below hbw hmap.lt; have hlk:=names_lookup hm1 team num; rw[HMEM.out] at hlk; clear hc1 hc2 hf1 hf2)
    |(go_at_call 86; refine (brests_c ⟨team,num,ax,ay,sx,sy,spin,true⟩ _).mono ?_; rintro e w2 ⟨rfl,hb2⟩; rw[HR.out]; have f0:=(hb2.cell (p:=⟨wr.heap.size+1,0,none⟩) hz).trans d0; have f1:=(hb2.cell (p:=⟨wr.heap.size+1,1,none⟩) hz).trans d1; have f6:=(hb2.cell (p:=⟨wr.heap.size+1,6,none⟩) hz).trans d6; have hm2:=hm1.below hb2 hm1.lt; clear d0 d1 d2 d3 d4 d5 d6 d7 hlk))
   go_ret
   exact⟨by rw[HS.out,HBF.out]; rfl,(hbel.trans (hbw.mono hbel.size)).trans (hb2.mono (by have:=hbw.size; have:=hbel.size; omega))⟩
  subst hs
  have HBG:Hid (bodsOk [] bs=bodsOk (bs.take (k+1)) (bs.drop (k+1))):=by show _=_; rw[HST.out,good_2 HOK.out HMEM.out HR.out rfl]; rfl
  have HNM:Hid ((team,num) ∉ (bs.take k).map Bod.name):=of_decide_eq_false HMEM.out
  have HKS:Hid ((bs.take (k+1)).map Bod.name=(bs.take k).map Bod.name++[(team,num)]):=by
   show _=_
   rw[HTK.out,List.map_append]; rfl
  go_wp2_with (first
   |(go_at_call 61; refine (bvalid_c ⟨team,num,ax,ay,sx,sy,0,true⟩ _).mono ?_; rintro e w1 ⟨rfl,hb1⟩; rw[HOK.out]; obtain⟨hc1,hc2,hf1,hf2,hz⟩:=two_new hb1; have d0:=hc2 0; have d1:=hc2 1; have d2:=hc2 2; have d3:=hc2 3; have d4:=hc2 4; have d5:=hc2 5; have d6:=hc2 6; have d7:=hc2 7; have hbw:Below wr.heap.size wr w1:=(((Below.refl _ _).alloc (Nat.le_refl _) _).alloc (by simp) _).trans (hb1.mono (by simp<;>omega)); have hm1:=hmap.below hbw hmap.lt; have hlk:=names_lookup hm1 team num; rw[HMEM.out] at hlk; clear hc1 hc2 hf1 hf2)
   |(go_at_call 86; refine (brests_c ⟨team,num,ax,ay,sx,sy,0,true⟩ _).mono ?_; rintro e w2 ⟨rfl,hb2⟩; rw[HR.out]; have f0:=(hb2.cell (p:=⟨wr.heap.size+1,0,none⟩) hz).trans d0; have f1:=(hb2.cell (p:=⟨wr.heap.size+1,1,none⟩) hz).trans d1; have f6:=(hb2.cell (p:=⟨wr.heap.size+1,6,none⟩) hz).trans d6; have hm2:=hm1.below hb2 hm1.lt; clear d0 d1 d2 d3 d4 d5 d6 d7 hlk)
   |(at_mapUpdate; refine wpList_names rfl _ rfl _ _ _ rfl w.heap.size ((bs.take k).map Bod.name) team num rfl rfl rfl hm2 HNM.out ?_; intro w3 hm3 hg3))
  go_roundw
  case rel=>exact⟨k+1,by omega,by go_num,by rw[HKS.out]; exact hm3,((hbel.trans (hbw.mono hbel.size)).trans (hb2.mono (by have:=hbw.size; have:=hbel.size; omega))).grown hg3 (by have:=hb2.size; have:=hbw.size; have:=hbel.size; omega) (fun q hq=>by cases hq; exact Nat.le_refl _),HBG.out⟩
  case measure=>simp[intOf]; omega
end Ck
def spSh:Sh:=.recd (.cons (.int .i64) (.cons (.int .i64) .nil))
def mvSh:Sh:=.recd (.cons spSh (.cons spSh (.cons (.int .i64) .nil)))
def bdSh:Sh:=.recd (.cons (.int .i64) (.cons (.int .i64) (.cons mvSh (.cons .bool .nil))))
def bodOf (x:bdSh.ty):Ck.Bod:=⟨x.1,x.2.1,x.2.2.1.1.1,x.2.2.1.1.2.1,x.2.2.1.2.1.1,x.2.2.1.2.1.2.1,x.2.2.1.2.2.1,x.2.2.2.1⟩
def scnB (l:List bdSh.ty):Bool:=Ck.sceneB (l.map bodOf)
theorem rep_nilv {h:List ABlk} {g:Gh} {w:World} {v:Value} (r:Rep h g w .nils v):v=.slice none 0 0:=by cases r; rfl
theorem bods_rep {M:Nat→Prop} {w:World} {xs:List bdSh.ty} {v:Value} (r:Rep [] ⟨fun _=>Go.undef,M⟩ w (.ro bdSh xs) v):Ck.Bods w v (xs.map bodOf):=by
 cases r with
 |ro0 e p c hc hp=>exact .inl ⟨p,c,rfl,rfl⟩
 |ro1 e xs b o c us h0 h1 h2 hm hc hr=>
  have hcell:∀n x,xs[n]?=some x→∀j,j<8→w.cell? ⟨b,o+n*8+j,none⟩=(bodOf x).cells[j]?:=fun n x hx j hj=>by
   match j,hj with
   |0,_=>have f:=hr n x 0 (.int .i64 x.1) hx rfl; exact (hc n x 0 (.int .i64 x.1) hx rfl).trans (congrArg some (rep_p0 f rfl))
   |1,_=>have f:=hr n x 1 (.int .i64 x.2.1) hx rfl; exact (hc n x 1 (.int .i64 x.2.1) hx rfl).trans (congrArg some (rep_p0 f rfl))
   |2,_=>have f:=hr n x 2 (.int .i64 x.2.2.1.1.1) hx rfl; exact (hc n x 2 (.int .i64 x.2.2.1.1.1) hx rfl).trans (congrArg some (rep_p0 f rfl))
   |3,_=>have f:=hr n x 3 (.int .i64 x.2.2.1.1.2.1) hx rfl; exact (hc n x 3 (.int .i64 x.2.2.1.1.2.1) hx rfl).trans (congrArg some (rep_p0 f rfl))
   |4,_=>have f:=hr n x 4 (.int .i64 x.2.2.1.2.1.1) hx rfl; exact (hc n x 4 (.int .i64 x.2.2.1.2.1.1) hx rfl).trans (congrArg some (rep_p0 f rfl))
   |5,_=>have f:=hr n x 5 (.int .i64 x.2.2.1.2.1.2.1) hx rfl; exact (hc n x 5 (.int .i64 x.2.2.1.2.1.2.1) hx rfl).trans (congrArg some (rep_p0 f rfl))
   |6,_=>have f:=hr n x 6 (.int .i64 x.2.2.1.2.2.1) hx rfl; exact (hc n x 6 (.int .i64 x.2.2.1.2.2.1) hx rfl).trans (congrArg some (rep_p0 f rfl))
   |7,_=>have f:=hr n x 7 (.bool x.2.2.2.1) hx rfl; exact (hc n x 7 (.bool x.2.2.2.1) hx rfl).trans (congrArg some (rep_p0 f rfl))
  refine .inr ⟨b,o,c,by rw[List.length_map],by rw[List.length_map]; exact h0,by rw[List.length_map]; exact Nat.le_trans h1 h2,fun i x hx j hj=>?_⟩
  rw[List.getElem?_map] at hx
  cases hy:xs[i]? with
  |none=>rw[hy] at hx; cases hx
  |some y=>rw[hy] at hx; cases hx; exact hcell i y hy j hj
def scnE (l:List bdSh.ty):Int:=Ck.errB (scnB l)
def ccheckF:List AVal→Option AOut
 | [.ro (.recd (.cons (.int .i64) (.cons (.int .i64) (.cons (.recd (.cons (.recd (.cons (.int .i64) (.cons (.int .i64) .nil))) (.cons (.recd (.cons (.int .i64) (.cons (.int .i64) .nil))) (.cons (.int .i64) .nil)))) (.cons .bool .nil))))) xs]=>some (i1 (scnE xs))
 | [.nils]=>some (i1 0)
 |_=>none
theorem ccheck_fsp:FspOk Tryz.prog 34 (toFsp ccheckF) where
 enter:=fun _ _=>by kernel_rfl
 nat:=toFsp_nat ccheckF
 calls:=fun args out hout M w cargs hM hl hr=>by
  have h:=toFsp_some hout
  unfold ccheckF at h
  have main:∀v bs e,cargs=#[v]→Ck.Bods w v bs→Ck.errB (Ck.sceneB bs)=e→Calls Tryz.prog 34 cargs w (CPost M w (i1 e)):=fun v bs e hc hb he=>by
   subst hc
   refine (Ck.ccheck_c bs v w hb).mono ?_
   rintro e' w' ⟨rfl,hb'⟩
   refine⟨M,fun _ h=>h,fun _ h=>.inl h,fun b h=>Nat.lt_of_lt_of_le (hM b h) hb'.size,hb',?_⟩
   rw[he]
   exact⟨_,rfl,.int _ _⟩
  split at h
  ·rename_i xs
   cases h
   have hs:cargs.size=1:=hl.symm
   have e:cargs=#[cargs[0]]:=by
    apply Array.ext
    ·exact hs
    ·intro j h1 h2
     have:j=0:=by omega
     subst this; rfl
   exact main cargs[0] _ _ e (bods_rep (hr 0 _ _ rfl (Array.getElem?_eq_getElem (by omega)))) rfl
  ·cases h
   have hs:cargs.size=1:=hl.symm
   have e:cargs=#[cargs[0]]:=by
    apply Array.ext
    ·exact hs
    ·intro j h1 h2
     have:j=0:=by omega
     subst this; rfl
   have r:=hr 0 _ _ rfl (Array.getElem?_eq_getElem (by omega:0<cargs.size))
   refine main cargs[0] [] _ e (.inl ⟨none,0,?_,rfl⟩) rfl
   exact rep_nilv r
  ·cases h
section
variable {α:Type} (t n x y sx sy sp:Int) (o:Bool) (t' n' x' y' sx' sy' sp':Int) (o':Bool) (el:Int) (k:AOut→Option α)
end
end Go.Proofs.YtenolfpkkgcgcaaGreat
namespace Go.Proofs.YtenolfpkkgcgcaaGreat
theorem near_eq {n d:Int} (hn:0≤n) (hd:0<d):rnd 3 false n d=(2*n+d) / (2*d):=by
 have hu:up1 3 false (n % d) d=(decide (0<n % d)&&decide (d≤n % d+n % d)):=rfl
 unfold rnd
 rw[hu]
 have e1:=Int.emod_add_mul_ediv n d
 have e2:=Int.emod_nonneg n (show d≠0 by omega)
 have e3:=Int.emod_lt_of_pos n hd
 have hmul:2*d*(n / d)=2*(d*(n / d)):=by rw[Int.mul_assoc]
 generalize n / d=q at *
 generalize n % d=r at *
 by_cases h:d≤r+r
 ·rw[decide_eq_true (show 0<r by omega),decide_eq_true h]
  have e:2*n+d=(2*r-d)+2*d*(q+1):=by rw[Int.mul_add,hmul]; omega
  rw[e,Int.add_mul_ediv_left _ _ (by omega),Int.ediv_eq_zero_of_lt (by omega) (by omega)]
  simp
 ·rw[decide_eq_false h,Bool.and_false]
  have e:2*n+d=(2*r+d)+2*d*q:=by rw[hmul]; omega
  rw[e,Int.add_mul_ediv_left _ _ (by omega),Int.ediv_eq_zero_of_lt (by omega) (by omega)]
  simp
theorem near_mono {n m d:Int} (hn:0≤n) (h:n≤m) (hd:0<d):rnd 3 false n d≤rnd 3 false m d:=by
 rw[near_eq hn hd,near_eq (by omega) hd]
 exact Int.ediv_le_ediv (by omega) (by omega)
theorem near_mul {m d:Int} (hm:0≤m) (hd:0<d):rnd 3 false (m*d) d=m:=by
 rw[near_eq (Int.mul_nonneg hm (by omega)) hd,show 2*(m*d)+d=d+2*d*m by rw[Int.mul_comm m d,Int.mul_assoc]; omega,Int.add_mul_ediv_left _ _ (by omega),Int.ediv_eq_zero_of_lt (by omega) (by omega)]
 omega
theorem near_nn {n d:Int} (hn:0≤n) (hd:0<d):0≤rnd 3 false n d:=rnd_nn hn hd
def lesV (fl ke p:Int):Int:=rnd 3 false ((fl-ke)*p) 1000
def brkV (fl ke sw p q:Int):Int:=rnd 3 false ((fl-lesV fl ke p)*(1000000-sw*q)) 1000000
def bndV (be q:Int):Int:=rnd 3 false (65536*(be*(2000-q))) 2000000
structure GrIs (fl ke sw be we:Int):Prop where
 ke:1≤ke∧ke≤fl
 fl:fl≤65536
 sw:0≤sw∧sw≤1000
 be:0≤be∧be≤1000
 we:0≤we∧we≤1000
abbrev Gr1 (p:Int):Prop:=0≤p∧p≤1000
theorem mul_in {a b A B:Int} (ha:0≤a∧a≤A) (hb:0≤b∧b≤B):0≤a*b∧a*b≤A*B:=⟨Int.mul_nonneg ha.1 hb.1,Int.mul_le_mul ha.2 hb.2 hb.1 (by omega)⟩
theorem les_in {fl ke sw be we p:Int} (g:GrIs fl ke sw be we) (hp:Gr1 p):0≤lesV fl ke p∧lesV fl ke p≤fl-ke:=by
 have:=g.ke
 have a:=mul_in (a:=fl-ke) (A:=fl-ke) (b:=p) (B:=1000) ⟨by omega,by omega⟩ hp
 refine⟨near_nn a.1 (by omega),?_⟩
 have:=near_mono a.1 a.2 (d:=1000) (by omega)
 rwa [near_mul (by omega) (by omega)] at this
theorem swp_in {sw q:Int} (hs:0≤sw∧sw≤1000) (hq:Gr1 q):0≤1000000-sw*q∧1000000-sw*q≤1000000:=by
 have:=mul_in hs hq; omega
theorem brk_in {fl ke sw be we p q:Int} (g:GrIs fl ke sw be we) (hp:Gr1 p) (hq:Gr1 q):0≤brkV fl ke sw p q∧brkV fl ke sw p q≤fl:=by
 have l:=les_in g hp
 have k:=g.ke
 have s:=swp_in g.sw hq
 have a:=mul_in (a:=fl-lesV fl ke p) (A:=fl) (b:=1000000-sw*q) (B:=1000000) ⟨by omega,by omega⟩ s
 refine⟨near_nn a.1 (by omega),?_⟩
 have:=near_mono a.1 a.2 (d:=1000000) (by omega)
 rwa [near_mul (by omega) (by omega)] at this
theorem bnd_in {be q:Int} (hb:0≤be∧be≤1000) (hq:Gr1 q):0≤bndV be q∧bndV be q≤65536:=by
 have a:=mul_in hb (b:=2000-q) (B:=2000) ⟨by omega,by omega⟩
 have b:=mul_in (a:=65536) (A:=65536) (b:=be*(2000-q)) (B:=2000000) ⟨by omega,by omega⟩ ⟨a.1,by omega⟩
 refine⟨near_nn b.1 (by omega),?_⟩
 have:=near_mono b.1 b.2 (d:=2000000) (by omega)
 rwa [near_mul (by omega) (by omega)] at this
open Go.RowKit
theorem rndP_small {how n d:Int} {neg:Bool} (h0:0≤n) (hd:0<d) (h:n / d<18446744073709551614):rndP how neg n d=rnd how neg n d:=by
 have h1:=Int.ediv_nonneg h0 (Int.le_of_lt hd)
 unfold rndP
 rw[decide_eq_true (by omega),cond_true]
 unfold rnd
 cases up1 how neg (n % d) d<;>simp only[cond_true,cond_false]<;>omega
theorem rnd_cut (neg:Bool) (n d:Int):rnd 0 neg n d=n / d:=by unfold rnd up1; simp
theorem div_le {n d m:Int} (hd:0<d) (h:n≤m*d):n / d≤m:=Int.ediv_le_of_le_mul hd h
theorem rnd_down {s d:Int} (hd:0<d):sg (ngB s) (rnd 1 (ngB s) (ab s) d)=s / d:=by
 unfold rnd up1 sg ngB ab
 have e1:=Int.emod_add_mul_ediv s d
 have e2:=Int.emod_nonneg s (show d≠0 by omega)
 have e3:=Int.emod_lt_of_pos s hd
 by_cases h:s<0
 ·rw[decide_eq_true h,if_pos h]
  simp only[cond_true,if_pos rfl,Bool.and_true]
  have f1:=Int.emod_add_mul_ediv (-s) d
  have f2:=Int.emod_nonneg (-s) (show d≠0 by omega)
  have f3:=Int.emod_lt_of_pos (-s) hd
  by_cases hz:(-s) % d=0
  ·rw[hz,decide_eq_false (by omega)]
   simp only[Bool.false_and,cond_false]
   have hs:s % d=0:=by
    have:=Int.emod_emod_of_dvd s (Int.dvd_refl d)
    exact (Int.emod_eq_zero_of_dvd (by have:=Int.dvd_of_emod_eq_zero hz; exact (Int.dvd_neg).1 this))
   have:d*(-s / d)+d*(s / d)=0:=by omega
   have:d*(-s / d+s / d)=0:=by rw[Int.mul_add]; omega
   have:=(Int.mul_eq_zero.1 this).resolve_left (by omega)
   omega
  ·rw[decide_eq_true (by omega)]
   simp only[ite_true,Bool.true_and,cond_true]
   have hs:s % d≠0:=fun hs=>hz (Int.emod_eq_zero_of_dvd ((Int.dvd_neg).2 (Int.dvd_of_emod_eq_zero hs)))
   have h1:d*(-s / d+s / d)=-((-s) % d)-s % d:=by rw[Int.mul_add]; omega
   have h2:-s / d+s / d=-1:=by
    have a:-s / d+s / d<0:=by
     rcases Int.lt_or_le (-s / d+s / d) 0 with q|q
     ·exact q
     ·have:=Int.mul_nonneg (Int.le_of_lt hd) q; omega
    have b:-2 < -s / d+s / d:=by
     rcases Int.lt_or_le (-2) (-s / d+s / d) with q|q
     ·exact q
     ·have:=Int.mul_le_mul_of_nonneg_left q (Int.le_of_lt hd); omega
    omega
   omega
 ·rw[decide_eq_false h,if_neg h]
  simp
theorem ab_le {x B:Int}:ab x≤B↔-B≤x∧x≤B:=by unfold ab; split<;>omega
theorem ab_sg (neg:Bool) {n:Int} (h:0≤n):ab (sg neg n)=n:=by
 unfold ab sg; cases neg
 ·simp only[cond_false]; rw[if_neg (by omega)]
 ·simp only[cond_true]; split<;>omega
theorem ok_le {x B:Int} (h:-B≤x∧x≤B) (hB:B≤70368744177664):okB x=true:=by rw[ok_iff]; omega
theorem i64_in (n:Int) (h:-9223372036854775808≤n∧n≤9223372036854775807):IntKind.i64.wrap n=n:=by rw[IntKind.wrap_i64]; omega
theorem gt_le (a b:Int):decide (a>b)=!decide (a≤b):=by
 by_cases h:a≤b
 ·rw[decide_eq_true h,decide_eq_false (by omega)]; rfl
 ·rw[decide_eq_false h,decide_eq_true (by omega)]; rfl
theorem ge_lt (a b:Int):decide (a≥b)=!decide (a<b):=by
 by_cases h:a<b
 ·rw[decide_eq_true h,decide_eq_false (by omega)]; rfl
 ·rw[decide_eq_false h,decide_eq_true (by omega)]; rfl
theorem in_dec {a lo hi:Int}:(decide (lo≤a)&&decide (a≤hi))=true↔lo≤a∧a≤hi:=by simp
theorem ab_pos {x:Int} (h:0≤x):ab x=x:=by unfold ab; rw[if_neg (by omega)]
theorem ng_pos {x:Int} (h:0≤x):ngB x=false:=decide_eq_false (by omega)
theorem sl_near {a n d:Int} (ha:0≤a∧a≤65536) (hn:0≤n∧n≤2000000) (hd:0<d∧d≤2000000):slV a n d 3=rnd 3 false (a*n) d∧slE a n d 3=0:=by
 have hm:=mul_in ha hn
 have hq:a*n / d≤131072000000:=Int.ediv_le_of_le_mul hd.1 (by
  have:=Int.mul_le_mul_of_nonneg_left (show 1≤d by omega) (show (0:Int)≤131072000000 by omega)
  omega)
 have h0:=rnd_nn (how:=3) (neg:=false) hm.1 hd.1
 have hg:scG a n d=false:=by unfold scG; rw[ng_pos ha.1,ng_pos hn.1,ng_pos (by omega)]; rfl
 have hP:slP a n d 3=rnd 3 false (a*n) d:=by
  unfold slP
  rw[hg,ab_pos ha.1,ab_pos hn.1,ab_pos (by omega)]
  exact rndP_small hm.1 hd.1 (by omega)
 have hok:slOk a n d=true:=by
  unfold slOk
  rw[ok_iff.2 (by omega),rate_iff.2 (by omega),rate_iff.2 (by omega)]; rfl
 have hr:rnd 3 false (a*n) d≤131072000001:=by
  unfold rnd
  cases up1 3 false (a*n % d) d<;>simp only[cond_true,cond_false]<;>omega
 have hd0:(d==0)=false:=by simp; omega
 have hf:fxB (rnd 3 false (a*n) d)=true:=by simp only[fxB,decide_eq_true_eq]; omega
 unfold slV slE
 rw[hok,hd0,hP,hg]
 unfold fxV fxE
 rw[hf]
 exact⟨rfl,rfl⟩
noncomputable def mW (dx dy c:Int):Int:=sg (ngB c) (shr (ab c) (sq2 dx dy))
def mJ (rx ry wx wy:Int):Int:=(rx*wx+ry*wy) / 65536
def mI (j el:Int):Int:=j*(1000+el) / 2000
def mP (w i:Int):Int:=sg (ngB w) (ab w*i / 65536)
structure Way (dx dy:Int):Prop where
 wx:-65536≤mW dx dy dx∧mW dx dy dx≤65536
 wy:-65536≤mW dx dy dy∧mW dx dy dy≤65536
 sq:mW dx dy dx*mW dx dy dx+mW dx dy dy*mW dx dy dy≤4294967296
 e:uniE dx dy=0
 vx:uniV dx dy dx=mW dx dy dx
 vy:uniV dx dy dy=mW dx dy dy
theorem way_of {dx dy:Int} (hx:okB dx=true) (hy:okB dy=true) (hz:sq2 dx dy≠0):Way dx dy:=by
 obtain⟨s1,s2⟩:=shB_of hx hy hz
 have a:=shr_in s1
 have b:=shr_in s2
 rw[vw_hl] at a b
 obtain⟨a0,a1,a2,a3⟩:=a
 obtain⟨b0,b1,b2,b3⟩:=b
 have fa:ab (mW dx dy dx)=shr (ab dx) (sq2 dx dy):=ab_sg _ a0
 have fb:ab (mW dx dy dy)=shr (ab dy) (sq2 dx dy):=ab_sg _ b0
 simp only[shrP,decide_eq_true_eq] at a2 b2
 have t1:((shr (ab dx) (sq2 dx dy)).toNat:Int)=shr (ab dx) (sq2 dx dy):=by omega
 have t2:((shr (ab dy) (sq2 dx dy)).toNat:Int)=shr (ab dy) (sq2 dx dy):=by omega
 rw[t1] at a2
 rw[t2] at b2
 refine⟨?_,?_,?_,?_,?_,?_⟩
 ·rw[←ab_le,fa]; exact a1
 ·rw[←ab_le,fb]; exact b1
 ·rw[←ab_sq (mW dx dy dx),←ab_sq (mW dx dy dy),fa,fb]
  have hs:0<sq2 dx dy:=by have:=(sq2_in hx hy).1; omega
  have e:sq2 dx dy=ab dx*ab dx+ab dy*ab dy:=rfl
  refine Int.le_of_mul_le_mul_right (a:=sq2 dx dy) ?_ hs
  rw[Int.add_mul]
  omega
 ·unfold uniE uniB; rw[hx,hy,beq_eq_false_iff_ne.2 hz]; rfl
 ·unfold uniV uniB; rw[hx,hy,beq_eq_false_iff_ne.2 hz]; rfl
 ·unfold uniV uniB; rw[hx,hy,beq_eq_false_iff_ne.2 hz]; rfl
theorem mul_bd {a b A B:Int} (ha:-A≤a∧a≤A) (hb:-B≤b∧b≤B) (hA:0≤A):-(A*B)≤a*b∧a*b≤A*B:=by
 have h:ab a*ab b≤A*B:=Int.mul_le_mul (ab_le.2 ha) (ab_le.2 hb) (ab_nn b) hA
 have e:=mul_sg a b
 have h0:0≤ab a*ab b:=Int.mul_nonneg (ab_nn a) (ab_nn b)
 rw[e]
 unfold sg
 cases xorB (ngB a) (ngB b)<;>simp only[cond_true,cond_false]<;>omega
theorem fx_of {n:Int} (h:n≤70368744177664):fxB n=true:=decide_eq_true h
theorem mi_of {x y u v:Int} (h:four x y u v=true) (h1:fxB (ab (x-u))=true) (h2:fxB (ab (y-v))=true):miE x y u v=0∧miX x y u v=x-u∧miY x y u v=y-v:=by
 unfold miE miX miY miP two2
 rw[h,h1,h2]
 exact⟨rfl,rfl,rfl⟩
theorem pl_of {x y u v:Int} (h:four x y u v=true) (h1:fxB (ab (x+u))=true) (h2:fxB (ab (y+v))=true):plE x y u v=0∧plX x y u v=x+u∧plY x y u v=y+v:=by
 unfold plE plX plY plP two2
 rw[h,h1,h2]
 exact⟨rfl,rfl,rfl⟩
theorem mi_small {x y u v B:Int} (hB:B≤35184372088832) (hx:-B≤x∧x≤B) (hy:-B≤y∧y≤B) (hu:-B≤u∧u≤B) (hv:-B≤v∧v≤B):miE x y u v=0∧miX x y u v=x-u∧miY x y u v=y-v:=
 mi_of (by unfold four; rw[ok_le hx (by omega),ok_le hy (by omega),ok_le hu (by omega),ok_le hv (by omega)]; rfl) (fx_of (ab_le.2 ⟨by omega,by omega⟩)) (fx_of (ab_le.2 ⟨by omega,by omega⟩))
theorem pl_small {x y u v B:Int} (hB:B≤35184372088832) (hx:-B≤x∧x≤B) (hy:-B≤y∧y≤B) (hu:-B≤u∧u≤B) (hv:-B≤v∧v≤B):plE x y u v=0∧plX x y u v=x+u∧plY x y u v=y+v:=
 pl_of (by unfold four; rw[ok_le hx (by omega),ok_le hy (by omega),ok_le hu (by omega),ok_le hv (by omega)]; rfl) (fx_of (ab_le.2 ⟨by omega,by omega⟩)) (fx_of (ab_le.2 ⟨by omega,by omega⟩))
theorem dt_down {rx ry wx wy:Int} (hr:(-131072000≤rx∧rx≤131072000)∧(-131072000≤ry∧ry≤131072000)) (hw:(-65536≤wx∧wx≤65536)∧(-65536≤wy∧wy≤65536)) :
  dtE rx ry wx wy 1=0∧dtV rx ry wx wy 1=mJ rx ry wx wy∧(-262144000≤mJ rx ry wx wy∧mJ rx ry wx wy≤262144000):=by
 have a:=mul_bd hr.1 hw.1 (by omega)
 have b:=mul_bd hr.2 hw.2 (by omega)
 have hj:-262144000≤mJ rx ry wx wy∧mJ rx ry wx wy≤262144000:=by unfold mJ; omega
 have hs:ab (dotS rx ry wx wy)≤262144000*65536:=ab_le.2 (by unfold dotS; omega)
 have hf:four rx ry wx wy=true:=by unfold four; rw[ok_le hr.1 (by omega),ok_le hr.2 (by omega),ok_le hw.1 (by omega),ok_le hw.2 (by omega)]; rfl
 have hq:=div_le (show (0:Int)<65536 by omega) hs
 have hP:dtP (dotS rx ry wx wy) 1=rnd 1 (ngB (dotS rx ry wx wy)) (ab (dotS rx ry wx wy)) 65536:=rndP_small (ab_nn _) (by omega) (by omega)
 have hd:=rnd_down (s:=dotS rx ry wx wy) (show (0:Int)<65536 by omega)
 have hle:rnd 1 (ngB (dotS rx ry wx wy)) (ab (dotS rx ry wx wy)) 65536≤262144001:=by
  unfold rnd
  cases up1 1 (ngB (dotS rx ry wx wy)) (ab (dotS rx ry wx wy) % 65536) 65536<;>simp only[cond_true,cond_false]<;>omega
 have hfx:fxB (dtP (dotS rx ry wx wy) 1)=true:=by rw[hP]; exact fx_of (by omega)
 refine⟨?_,?_,hj⟩
 ·unfold dtE fxE; rw[hf,hfx]; rfl
 ·unfold dtV fxV; rw[hf,hfx,cond_true,cond_true,hP,hd]; rfl
theorem sl_cut {j el:Int} (hj:0<j∧j≤262144000) (he:0≤el∧el≤1000):slE j (1000+el) 2000 0=0∧slV j (1000+el) 2000 0=mI j el∧(0≤mI j el∧mI j el≤j):=by
 have e1:ab j=j:=by unfold ab; rw[if_neg (by omega)]
 have e2:ab (1000+el)=1000+el:=by unfold ab; rw[if_neg (by omega)]
 have g:scG j (1000+el) 2000=false:=by unfold scG ngB; rw[decide_eq_false (by omega),decide_eq_false (by omega)]; rfl
 have hm:j*(1000+el)≤j*2000:=Int.mul_le_mul_of_nonneg_left (by omega) (by omega)
 have h0:0≤j*(1000+el):=Int.mul_nonneg (by omega) (by omega)
 have hi:0≤mI j el∧mI j el≤j:=⟨Int.ediv_nonneg h0 (by omega),div_le (by omega) hm⟩
 have hP:slP j (1000+el) 2000 0=mI j el:=by
  unfold slP
  rw[g,e1,e2,show ab 2000=2000 from rfl,rndP_small h0 (by omega) (by have:=hi.2; unfold mI at this; omega),rnd_cut]; rfl
 have hk:slOk j (1000+el) 2000=true:=by
  unfold slOk; rw[ok_le (B:=262144000) (by omega) (by omega),rate_iff.2 (by omega),rate_iff.2 (by omega)]; rfl
 have hfx:fxB (mI j el)=true:=fx_of (by omega)
 refine⟨?_,?_,hi⟩
 ·unfold slE fxE; rw[hk,hP,hfx]; rfl
 ·unfold slV fxV; rw[hk,hP,hfx,g]; rfl
theorem mP_in {w i:Int} (hw:-65536≤w∧w≤65536) (hi:0≤i):0≤ab w*i / 65536∧ab w*i / 65536≤i:=by
 have h0:0≤ab w*i:=Int.mul_nonneg (ab_nn w) hi
 have h1:ab w*i≤i*65536:=by rw[Int.mul_comm i]; exact Int.mul_le_mul_of_nonneg_right (ab_le.2 hw) hi
 exact⟨Int.ediv_nonneg h0 (by omega),div_le (by omega) h1⟩
theorem pr_cut {w i:Int} (hw:-65536≤w∧w≤65536) (hi:0≤i∧i≤262144000):fxB (prP w i 0)=true∧sg (xorB (ngB w) (ngB i)) (prP w i 0)=mP w i:=by
 have a:=mP_in hw hi.1
 have e2:ab i=i:=by unfold ab; rw[if_neg (by omega)]
 have g:ngB i=false:=decide_eq_false (by omega)
 have hP:prP w i 0=ab w*i / 65536:=by
  unfold prP
  rw[e2,rndP_small (Int.mul_nonneg (ab_nn w) hi.1) (by omega) (by omega),rnd_cut]
 have gx:xorB (ngB w) false=ngB w:=by cases ngB w<;>rfl
 refine⟨?_,?_⟩
 ·rw[hP]; exact fx_of (by omega)
 ·rw[hP,g,gx]; rfl
theorem ti_cut {wx wy i:Int} (hw:(-65536≤wx∧wx≤65536)∧(-65536≤wy∧wy≤65536)) (hi:0≤i∧i≤262144000) :
  tiE wx wy i 0=0∧tiV wx wy i 0 wx=mP wx i∧tiV wx wy i 0 wy=mP wy i:=by
 obtain⟨f1,v1⟩:=pr_cut hw.1 hi
 obtain⟨f2,v2⟩:=pr_cut hw.2 hi
 have hk:tiOk wx wy i=true:=by unfold tiOk; rw[ok_le hw.1 (by omega),ok_le hw.2 (by omega),ok_le (B:=262144000) (by omega) (by omega)]; rfl
 have hf:tiFit wx wy i 0=true:=by unfold tiFit; rw[f1,f2]; rfl
 refine⟨?_,?_,?_⟩
 ·unfold tiE; rw[hk,hf]; rfl
 ·unfold tiV; rw[hk,hf,←v1]; rfl
 ·unfold tiV; rw[hk,hf,←v2]; rfl
theorem mP_bd {w i:Int} (hw:-65536≤w∧w≤65536) (hi:0≤i∧i≤262144000):-262144000≤mP w i∧mP w i≤262144000:=by
 have a:=mP_in hw hi.1
 rw[←ab_le]
 unfold mP
 rw[ab_sg _ a.1]; omega
noncomputable def mtWx (x y x' y':Int):Int:=mW (x'-x) (y'-y) (x'-x)
noncomputable def mtWy (x y x' y':Int):Int:=mW (x'-x) (y'-y) (y'-y)
noncomputable def mtJ (x y sx sy x' y' sx' sy':Int):Int:=mJ (sx-sx') (sy-sy') (mtWx x y x' y') (mtWy x y x' y')
noncomputable def mtPx (x y sx sy x' y' sx' sy' el:Int):Int:=mP (mtWx x y x' y') (mI (mtJ x y sx sy x' y' sx' sy') el)
noncomputable def mtPy (x y sx sy x' y' sx' sy' el:Int):Int:=mP (mtWy x y x' y') (mI (mtJ x y sx sy x' y' sx' sy') el)
noncomputable def mtGo (x y sx sy:Int) (o:Bool) (x' y' sx' sy':Int) (o':Bool):Bool:=tchB x y x' y' o o'&&decide (0<mtJ x y sx sy x' y' sx' sy')
structure BodIs (t n x y sx sy sp:Int):Prop where
 t:0≤t∧t≤1
 n:0≤n∧n≤7
 x:-6553600000≤x∧x≤6553600000
 y:-6553600000≤y∧y≤6553600000
 sx:-65536000≤sx∧sx≤65536000
 sy:-65536000≤sy∧sy≤65536000
 sp:-1000≤sp∧sp≤1000
theorem bod_is {t n x y sx sy sp:Int}:bodB t n x y sx sy sp=true↔BodIs t n x y sx sy sp:=by
 simp only[bodB,movC,rgB,Bool.and_eq_true,decide_eq_true_eq]
 exact⟨fun ⟨⟨a,b⟩,⟨⟨⟨c,d⟩,e⟩,f⟩,g⟩=>⟨a,b,c,d,e,f,g⟩,fun ⟨a,b,c,d,e,f,g⟩=>⟨⟨a,b⟩,⟨⟨⟨c,d⟩,e⟩,f⟩,g⟩⟩
theorem tch_ne {x y u v:Int} {o p:Bool} (h:tchB x y u v o p=true) (hm:miX u v x y=u-x∧miY u v x y=v-y):sq2 (u-x) (v-y)≠0:=by
 unfold tchB at h
 rw[hm.1,hm.2] at h
 simp only[Bool.and_eq_true,Bool.not_eq_true',Bool.and_eq_false_iff,beq_eq_false_iff_ne] at h
 obtain⟨_,_,_,h⟩:=h
 unfold sq2
 rw[ab_sq,ab_sq]
 have h1:0≤(u-x)*(u-x):=by rw[←ab_sq]; exact Int.mul_nonneg (ab_nn _) (ab_nn _)
 have h2:0≤(v-y)*(v-y):=by rw[←ab_sq]; exact Int.mul_nonneg (ab_nn _) (ab_nn _)
 rcases h with h|h
 ·have:(u-x)*(u-x)≠0:=fun e=>h ((Int.mul_eq_zero.1 e).elim id id)
  omega
 ·have:(v-y)*(v-y)≠0:=fun e=>h ((Int.mul_eq_zero.1 e).elim id id)
  omega
structure MtIs (x y sx sy x' y' sx' sy' el:Int):Prop where
 way:Way (x'-x) (y'-y)
 j:-262144000≤mtJ x y sx sy x' y' sx' sy'∧mtJ x y sx sy x' y' sx' sy'≤262144000
 i:0<mtJ x y sx sy x' y' sx' sy'→0≤mI (mtJ x y sx sy x' y' sx' sy') el∧mI (mtJ x y sx sy x' y' sx' sy') el≤mtJ x y sx sy x' y' sx' sy'
 px:0<mtJ x y sx sy x' y' sx' sy'→-262144000≤mtPx x y sx sy x' y' sx' sy' el∧mtPx x y sx sy x' y' sx' sy' el≤262144000
 py:0<mtJ x y sx sy x' y' sx' sy'→-262144000≤mtPy x y sx sy x' y' sx' sy' el∧mtPy x y sx sy x' y' sx' sy' el≤262144000
theorem mt_is {t n x y sx sy sp t' n' x' y' sx' sy' sp' el:Int} {o o':Bool} (a:BodIs t n x y sx sy sp) (b:BodIs t' n' x' y' sx' sy' sp') (he:0≤el∧el≤1000) (ht:tchB x y x' y' o o'=true):MtIs x y sx sy x' y' sx' sy' el:=by
 have m1:=mi_small (B:=6553600000) (by omega) b.x b.y a.x a.y
 have hz:=tch_ne ht m1.2
 have W:=way_of (dx:=x'-x) (dy:=y'-y) (ok_le (B:=13107200000) (by have:=a.x; have:=b.x; omega) (by omega)) (ok_le (B:=13107200000) (by have:=a.y; have:=b.y; omega) (by omega)) hz
 have hr:(-131072000≤sx-sx'∧sx-sx'≤131072000)∧(-131072000≤sy-sy'∧sy-sy'≤131072000):=by
  have:=a.sx; have:=b.sx; have:=a.sy; have:=b.sy; omega
 have D:=(dt_down hr ⟨W.wx,W.wy⟩).2.2
 have I:=fun h=>(sl_cut (j:=mtJ x y sx sy x' y' sx' sy') (el:=el) ⟨h,D.2⟩ he).2.2
 exact⟨W,D,I,fun h=>mP_bd W.wx ⟨(I h).1,Int.le_trans (I h).2 D.2⟩,fun h=>mP_bd W.wy ⟨(I h).1,Int.le_trans (I h).2 D.2⟩⟩
theorem fntried1_panic (b:Nat) (x y c:Int) (w:World) (hp:w.cell? ⟨b,0,none⟩=some (.int .i64 x)) (hq:w.cell? ⟨b+1,0,none⟩=some (.int .i64 y)) (fp:w.frozen? ⟨b,0,none⟩=false) (fq:w.frozen? ⟨b+1,0,none⟩=false) (hqb:b+1<w.heap.size) :
  CallsD Tryz.prog 92 #[.pointer (some ⟨b,0,none⟩),.pointer (some ⟨b+1,0,none⟩)] (.panicking (fxPanic c)) w fun e u' w'=>
   e=.returned (.tuple #[])∧u'=.panicking [{ v:=.iface 178 (.agg #[.int .i64 c]),recovered:=true }]∧w'.cell? ⟨b,0,none⟩=some (.int .i64 0)∧w'.cell? ⟨b+1,0,none⟩=some (.int .i64 c)∧Exe w.heap.size b w w':=by
 refine callsD_of_wpS Tryz.func92 rfl fun c₀ cs hu=>?_
 apply wpS_seq
 apply wpS_region
 simp[wpOpsS,go_sem,recoverD,hu,fxPanic,Tryz.ntmps92,Exit.thenS,Array.replicate,List.replicate]
 refine wpS_of_wp ?_
 clear hu
 have hta:=fun w=>fxassert_yes c w
 have ha:∀o,Below w.heap.size w (w.alloc o):=fun o=>(Below.refl _ _).alloc (Nat.le_refl _) o
 have hp':∀o,(w.alloc o).cell? ⟨b,0,none⟩=some (.int .i64 x):=fun o=>((ha o).cell (p:=⟨b,0,none⟩) (by simp; omega)).trans hp
 have hq':∀o,(w.alloc o).cell? ⟨b+1,0,none⟩=some (.int .i64 y):=fun o=>((ha o).cell (p:=⟨b+1,0,none⟩) (by simp; omega)).trans hq
 have fp':∀o,(w.alloc o).frozen? ⟨b,0,none⟩=false:=fun o=>((ha o).frozen (p:=⟨b,0,none⟩) (by simp; omega)).trans fp
 have fq':∀o,(w.alloc o).frozen? ⟨b+1,0,none⟩=false:=fun o=>((ha o).frozen (p:=⟨b+1,0,none⟩) (by simp; omega)).trans fq
 clear ha
 go_wp2
 go_region
 all_goals
  go_big_unhide
  simp[bodyPostS,results,Tryz.results92,go_sem]
  refine⟨cellSet _ (hp' _),cellSet (u:=.int .i64 y) _ ((cellSetNe _ (by simp)).trans (hq' _)),?_⟩
  exact (((Exe.of ((Below.refl w.heap.size w).alloc (Nat.le_refl _) _)).trans (.set _)).trans (.set1 _)).drew
theorem fntried1_idle (b:Nat) (w:World) :
  CallsD Tryz.prog 92 #[.pointer (some ⟨b,0,none⟩),.pointer (some ⟨b+1,0,none⟩)] .returning w fun e u' w'=>
   e=.returned (.tuple #[])∧u'=.returning∧Below w.heap.size w w':=by
 refine callsD_of_wpS Tryz.func92 rfl fun c₀ cs hu=>?_
 apply wpS_seq
 apply wpS_region
 simp[wpOpsS,go_sem,recoverD,hu,Tryz.ntmps92,Exit.thenS,Array.replicate,List.replicate]
 refine wpS_of_wp ?_
 have hta:=fun w=>fxassert_nil w
 go_wp2
 all_goals
  simp[bodyPostS,results,Tryz.results92,go_sem]
  exact⟨.returning,by cases c₀; simp_all,rfl,(Below.refl _ _).alloc (Nat.le_refl _) _⟩
set_option maxHeartbeats 1000000 in
theorem fntried_ok (K:FuncId) (caps:Array Value) (v:Int) (Q:World→Prop) (he:∀w,(callFunc K caps).run Tryz.prog w=.ok (.enter K caps) w) (w:World)
  (h:∀w1,Below w.heap.size w w1→w.heap.size+1<w1.heap.size→Calls Tryz.prog K caps w1 fun e w'=>e=.returned (.int .i64 v)∧w'.heap[w.heap.size]?=w1.heap[w.heap.size]?∧w'.heap[w.heap.size+1]?=w1.heap[w.heap.size+1]?∧w1.heap.size≤w'.heap.size∧Q w') :
  Calls Tryz.prog 42 #[.func (.func K) #[] caps] w fun e w'=>e=.returned (.tuple #[.int .i64 v,.int .i64 0])∧∃w2,Q w2∧Exe w2.heap.size w.heap.size w2 w':=by
 have hmf:∀(fn:Fn) (first cap:Array Value) (w:World),(Instr.makeFunc fn first cap).run Tryz.prog w=.ok (.func fn first cap) w:=fun _ _ _ _=>rfl
 have HH:=hidOf h
 have hcall:∀w,(callFunc K caps).run Tryz.prog w=.ok (.enter K caps) w:=he
 clear h he
 go_enter_defers Tryz.func42,Tryz.ntmps42
 go_wp2_with (go_at_fn K; refine (HH.out _ (((Below.refl _ _).alloc (Nat.le_refl _) _).alloc (by simp) _) (by simp)).mono ?_; rintro e w1 ⟨rfl,hb1,hb2,hz1,hq⟩; obtain⟨hc1,hc2,hf1,hf2⟩:=two_kept hb1 hb2; have hz:w.heap.size+1<w1.heap.size:=(by simp at hz1; omega); have hd1:=hc1 0; have hd2:=hc2 0)
 refine leaves_cons (f:=92) (args:=#[.pointer (some ⟨w.heap.size,0,none⟩),.pointer (some ⟨w.heap.size+1,0,none⟩)]) (by simp) (by simp[go_sem]) ?_
 have hs:((w1.setCell ⟨w.heap.size,0,none⟩ (.int .i64 v)).setCell ⟨w.heap.size+1,0,none⟩ (.int .i64 0)).heap.size=w1.heap.size:=by simp[World.setCell]
 refine (fntried1_idle w.heap.size _).mono ?_
 rintro e u' w2 ⟨rfl,rfl,hb2⟩
 rw[hs] at hb2
 have g1:w2.cell? ⟨w.heap.size,0,none⟩=some (.int .i64 v):=by
  rw[hb2.cell (p:=⟨w.heap.size,0,none⟩) (by show w.heap.size<_; omega),cellSetNe _ (by simp)]
  exact cellSet _ hd1
 have g2:w2.cell? ⟨w.heap.size+1,0,none⟩=some (.int .i64 0):=by
  rw[hb2.cell (p:=⟨w.heap.size+1,0,none⟩) hz]
  exact cellSet (u:=.int .i64 0) _ ((cellSetNe _ (by simp)).trans hd2)
 clear HH hcall hmf hc1 hc2 hf1 hf2 hd1 hd2
 simp[Leaves,settle,results,Tryz.results42,go_sem,g1,g2]
 exact⟨w1,hq,((Exe.set _).trans (.set1 _)).trans (Exe.of hb2)⟩
set_option maxHeartbeats 1000000 in
theorem fntried_err (K:FuncId) (caps:Array Value) (c:Int) (Q:World→Prop) (he:∀w,(callFunc K caps).run Tryz.prog w=.ok (.enter K caps) w) (w:World)
  (h:∀w1,Below w.heap.size w w1→w.heap.size+1<w1.heap.size→Calls Tryz.prog K caps w1 fun e w'=>e=.panicked (fxPanic c)∧w'.heap[w.heap.size]?=w1.heap[w.heap.size]?∧w'.heap[w.heap.size+1]?=w1.heap[w.heap.size+1]?∧w1.heap.size≤w'.heap.size∧Q w') :
  Calls Tryz.prog 42 #[.func (.func K) #[] caps] w fun e w'=>e=.returned (.tuple #[.int .i64 0,.int .i64 c])∧∃w2,Q w2∧Exe w2.heap.size w.heap.size w2 w':=by
 have hmf:∀(fn:Fn) (first cap:Array Value) (w:World),(Instr.makeFunc fn first cap).run Tryz.prog w=.ok (.func fn first cap) w:=fun _ _ _ _=>rfl
 have HH:=hidOf h
 have hcall:∀w,(callFunc K caps).run Tryz.prog w=.ok (.enter K caps) w:=he
 clear h he
 go_enter_defers Tryz.func42,Tryz.ntmps42
 go_wp2_with (go_at_fn K; refine (HH.out _ (((Below.refl _ _).alloc (Nat.le_refl _) _).alloc (by simp) _) (by simp)).mono ?_; rintro e w1 ⟨rfl,hb1,hb2,hz1,hq⟩; obtain⟨hc1,hc2,hf1,hf2⟩:=two_kept hb1 hb2; have hz:w.heap.size+1<w1.heap.size:=(by simp at hz1; omega))
 refine leaves_cons (f:=92) (args:=#[.pointer (some ⟨w.heap.size,0,none⟩),.pointer (some ⟨w.heap.size+1,0,none⟩)]) (by simp) (by simp[go_sem]) ?_
 refine (fntried1_panic w.heap.size 0 0 c _ (hc1 0) (hc2 0) (hf1 0) (hf2 0) hz).mono ?_
 rintro e u' w2 ⟨rfl,rfl,g1,g2,hb2⟩
 clear HH hcall hmf hc1 hc2 hf1 hf2
 simp[Leaves,settle,results,Tryz.results42,go_sem,g1,g2]
 exact⟨w1,hq,hb2⟩
theorem fntried_tried:Tried2Ok Tryz.prog 42 178 fitI valI (.int .i64 0) (.int .i64 0) where
 shape:=fun h g w u z hu hr=>by
  unfold fitI at hu
  split at hu
  ·exact rep_int hr
  ·cases hu
 rep:=fun h g w u hu=>by
  unfold fitI at hu
  split at hu
  ·exact .int _ _
  ·cases hu
 repz:=fun h g w=>.int _ _
 enter:=fun args w=>by kernel_rfl
 ok:=fun K caps u Q hu he w h=>by
  unfold fitI at hu
  split at hu
  ·exact fntried_ok K caps _ Q he w h
  ·cases hu
 err:=fun K caps c Q he w h=>fntried_err K caps c Q he w h
theorem wBc_ex:∃f:Int→Bool,f=wB:=⟨_,rfl⟩
noncomputable def wBc:Int→Bool:=Classical.choose wBc_ex
theorem wBc_eq:wBc=wB:=Classical.choose_spec wBc_ex
noncomputable def prodCS:Fsp:=fun _ args k=>match args with
 | [.int .u64 x,.int .u64 y]=>bif wBc x&&wBc y then k (.ret (.agg [uN (hiW (x*y)),uN (loW (x*y))])) else none
 |_=>none
theorem prodCS_ok:FspOk Tryz.prog 77 prodCS:=by
 have e:prodCS=prodS:=by
  unfold prodCS prodS; first|(rw[wBc_eq]; done)|(rw[wBc_eq]; rfl)
 rw[e]; exact prodS_ok
noncomputable def cmpCS:Fsp:=fun _ args k=>match args with
 | [.agg [.int .u64 a,.int .u64 b],.agg [.int .u64 c,.int .u64 d]]=>bif wBc b&&wBc d then k (.ret (.int .i64 (cmp3 (vw a b) (vw c d)))) else none
 |_=>none
theorem cmpCS_ok:FspOk Tryz.prog 45 cmpCS:=by
 have e:cmpCS=cmpVS:=by
  unfold cmpCS cmpVS; first|(rw[wBc_eq]; done)|(rw[wBc_eq]; rfl)
 rw[e]; exact cmpVS_ok
set_option maxRecDepth 100000 in
theorem ways_text (N n0:Nat) (α:Type) (how:Int) (k:AOut→Option α):evFn real tab ((twT fsF spC).env real tab N (n0+8)) N Tryz.f74 α [.int .i64 how] k =
 bif how==0 then k (AOut.ret (AVal.fn 127 [])) else bif how==1 then k (AOut.ret (AVal.fn 128 [])) else bif how==2 then k (AOut.ret (AVal.fn 129 [])) else bif how==3 then k
 (AOut.ret (AVal.fn 130 [])) else k (AOut.pan (AVal.ifc 178 (AVal.agg [AVal.int IntKind.i64 2]))):=by kernel_rfl
noncomputable def waysS:Fsp:=fun _ args k=>match args with
 | [.int .i64 how]=>bif how==0 then k (.ret (.fn 127 [])) else bif how==1 then k (.ret (.fn 128 [])) else bif how==2 then k (.ret (.fn 129 [])) else bif how==3 then k (.ret (.fn 130 [])) else k (mis fxm 2)
 |_=>none
theorem waysS_ok:FspOk Tryz.prog 74 waysS:=tower_S fsF_ok spC_ok ⟨Tryz.func74,fun _ _=>by kernel_rfl⟩ (by intro α args k; unfold waysS; split<;>first|rfl|simp only[cond_bind,Option.bind_some]) fun args out hs h=>by
 unfold waysS at h
 split at h
 ·rename_i how
  exact⟨8,8,(ways_text 8 0 AOut how some).trans h⟩
 ·cases h
noncomputable def fsL0:FuncId→Option Fsp:=fun g=>
 if g=74 then some waysS else
 if g=77 then some prodCS else
 if g=45 then some cmpCS else
 fsF g
theorem fsL0_ok:FsOk fsL0:=
 fs_cons waysS_ok <|
 fs_cons prodCS_ok <|
 fs_cons cmpCS_ok <|
 fsF_ok
noncomputable def wrBody {α:Type} (h l n b m:Int):Option (LRes (Int × Int × Unit) α):=
 bif decide (b>0) then
  bif wBc m&&wBc m then
   bif wBc (loW (m*m))&&wBc l then
    bif decide (cmp3 (vw (hiW (m*m)) (loW (m*m))) (vw h l)≤0) then some (LRes.cont (m,b.fdiv (2^min (Int.toNat 1) 64),()))
    else some (LRes.cont (n,b.fdiv (2^min (Int.toNat 1) 64),()))
   else none
  else none
 else some (LRes.brk 0 (n,b,()))
set_option maxRecDepth 100000 in
theorem wroot_text (N n0:Nat) (α:Type) (h l:Int) (k:AOut→Option α):evFn real tab ((twT fsL0 spC).env real tab N (n0+8)) N Tryz.f131 α [.agg [.int .u64 h,.int .u64 l]] k =
 afterL (iterL N (fun x:Int × Int × Unit=>wrBody h l x.1 x.2.1 (IntKind.u64.wrap (((BitVec.ofInt 64 x.1 ||| BitVec.ofInt 64 x.2.1).toNat:Nat):Int))) (0,4611686018427387904,
 ())) fun id y=>if id=0 then k (.ret (.int .u64 y.1)) else none:=by kernel_rfl
def rtB (h l:Int):Bool:=(wB h&&wB l)&&decide (vw h l<85070591730234615865843651857942052864)
def rtP (s:Int) (m:Nat):Bool:=decide ((m:Int)*m≤s)
theorem rt_bs (s:Int):rt s=((bs (rtP s) 63 0:Nat):Int):=by rw[rt_C]; rfl
theorem rtP_anti {s:Int} (m n:Nat) (h:n≤m) (hm:rtP s m=true):rtP s n=true:=by
 simp only[rtP,decide_eq_true_eq] at hm ⊢
 have:(n:Int)*n≤m*m:=Int.mul_le_mul (by omega) (by omega) (by omega) (by omega)
 omega
theorem rt_spec {s:Int} (h0:0≤s) (h1:s<85070591730234615865843651857942052864):0≤rt s∧rt s*rt s≤s∧s<(rt s+1)*(rt s+1)∧rt s<9223372036854775808:=by
 have p63:(2:Nat)^63=9223372036854775808:=rfl
 have ht:rtP s (0+2^63)=false:=by
  rw[p63,Nat.zero_add]
  simp only[rtP,decide_eq_false_iff_not]
  intro h
  have h:(9223372036854775808:Int)*9223372036854775808≤s:=h
  omega
 have a:=bs_spec (rtP s) (fun m n=>rtP_anti m n) 63 0 (by simp[rtP]; exact h0) ht
 rw[p63] at a
 rw[rt_bs]
 generalize bs (rtP s) 63 0=n at *
 simp only[rtP,decide_eq_true_eq,decide_eq_false_iff_not] at a
 have e:(((n+1:Nat):Int))=(n:Int)+1:=by omega
 rw[e] at a
 have hb:=a.2.2.2
 exact⟨by omega,a.1,by omega,by omega⟩
theorem wroot_plain (N n0:Nat) (α:Type) {h l:Int} (hb:rtB h l=true) (k:AOut→Option α):evFn real tab ((twT fsL0 spC).env real tab (N+64) (n0+8)) (N+64) Tryz.f131 α [.agg [uN h,uN l]] k=k (.ret (.int .u64 (rt (vw h l)))):=by
 rw[wroot_text]
 simp only[rtB,Bool.and_eq_true,decide_eq_true_eq,wB_iff] at hb
 obtain⟨⟨hh,hl⟩,hs⟩:=hb
 have hl':=hl
 unfold Word at hh hl
 have hs0:0≤vw h l:=by unfold vw; omega
 generalize hf:(fun y:Int × Int × Unit=>(_:Option (LRes (Int × Int × Unit) α)))=f
 have e:=bit_search (f:=f) (rtP (vw h l)) 63 (fun n k h1 h2 h3=>?_) (fun n=>?_) 63 0 rfl (by omega) (by simp[rtP]; exact hs0) (N+64) (by omega)
 ·have q0:(2^63 / 2:Nat)=4611686018427387904:=rfl
  have q1:((4611686018427387904:Nat):Int)=4611686018427387904:=rfl
  rw[q0,q1] at e
  have e':iterL (N+64) f (0,4611686018427387904,())=some (.brk 0 (((bs (rtP (vw h l)) 63 0:Nat):Int),0,())):=e
  rw[e',rt_bs]
  rfl
 ·rw[←hf]
  have p63:(2:Nat)^63=9223372036854775808:=rfl
  have hk:2^(k+1)=2^k+2^k:=by rw[Nat.pow_succ]; omega
  have hpos:0<2^k:=Nat.two_pow_pos k
  have hor:IntKind.u64.wrap (((BitVec.ofInt 64 (n:Int) ||| BitVec.ofInt 64 ((2^k:Nat):Int)).toNat:Nat):Int)=((n+2^k:Nat):Int):=by
   rw[or_add (k+1) (by omega) (by omega) (by omega) (by omega)]; omega
  have hsh:(((2^k:Nat):Int)).fdiv (2^min (Int.toNat 1) 64)=((2^k / 2:Nat):Int):=by
   rw[show (2:Int)^min (Int.toNat 1) 64=2 from rfl,fdiv_pos _ (by omega)]; omega
  show wrBody h l (n:Int) ((2^k:Nat):Int) _=_
  rw[hor]
  unfold wrBody
  rw[hsh,decide_eq_true (show ((2^k:Nat):Int)>0 by omega),wBc_eq]
  have w1:wB ((n+2^k:Nat):Int)=true:=by rw[wB_iff]; unfold Word; omega
  rw[w1,lo_wB,wB_iff.2 hl',cmp3_le,vw_hl,Bool.and_self,cond_true,cond_true,cond_true]
  show (bif rtP (vw h l) (n+2^k) then _ else _)=_
  cases rtP (vw h l) (n+2^k)<;>rfl
 ·rw[←hf]
  rfl
noncomputable def rootWS:Fsp:=fun _ args k=>match args with
 | [.agg [.int .u64 h,.int .u64 l]]=>bif rtB h l then k (.ret (.int .u64 (rt (vw h l)))) else none
 |_=>none
theorem rootWS_ok:FspOk Tryz.prog 131 rootWS:=tower_S fsL0_ok spC_ok ⟨Tryz.func131,fun _ _=>by kernel_rfl⟩ (by intro α args k; unfold rootWS; split<;>simp only[cond_bind,Option.bind_some,Option.bind_none]) fun args out hs hq=>by
 unfold rootWS at hq
 split at hq
 ·rename_i h l
  cases hb:rtB h l
  ·rw[hb] at hq; cases hq
  ·rw[hb,cond_true] at hq
   exact⟨64,8,(wroot_plain 0 0 AOut hb some).trans hq⟩
 ·cases hq
noncomputable def spL:FuncId→Option (Cv→Cv):=fun g=>
 if g=42 then some (tried2S fxm fitI (.int .i64 0)) else
 spC g
theorem spL_ok:SpOk spL:=
 sp_cons (fun cv h caps=>tried2_at fntried_tried cv h caps) <|
 spC_ok
/-! How a way rounds. -/
set_option maxRecDepth 100000 in
theorem way0_text (N n0:Nat) (α:Type) (x:Int) (b:Bool) (k:AOut→Option α):evFn real tab ((twT fsL0 spC).env real tab N (n0+8)) N Tryz.f127 α [.int .i64 x,.bool b] k =
 k (AOut.ret (AVal.bool false)):=by kernel_rfl
set_option maxRecDepth 100000 in
theorem way1_text (N n0:Nat) (α:Type) (x:Int) (b:Bool) (k:AOut→Option α):evFn real tab ((twT fsL0 spC).env real tab N (n0+8)) N Tryz.f128 α [.int .i64 x,.bool b] k =
 k (AOut.ret (AVal.bool b)):=by kernel_rfl
set_option maxRecDepth 100000 in
theorem way2_text (N n0:Nat) (α:Type) (x:Int) (b:Bool) (k:AOut→Option α):evFn real tab ((twT fsL0 spC).env real tab N (n0+8)) N Tryz.f129 α [.int .i64 x,.bool b] k =
 k (AOut.ret (AVal.bool !b)):=by kernel_rfl
set_option maxRecDepth 100000 in
theorem way3_text (N n0:Nat) (α:Type) (x:Int) (b:Bool) (k:AOut→Option α):evFn real tab ((twT fsL0 spC).env real tab N (n0+8)) N Tryz.f130 α [.int .i64 x,.bool b] k =
 k (AOut.ret (AVal.bool (decide (x≥0)))):=by kernel_rfl
theorem way0_fin (x:Int) (b:Bool) (hs:∀c∈([.int .i64 x,.bool b]:List AVal),Sm c):∃N n,∀α (k:AOut→Option α),evFn real tab ((twT fsL0 spC).env real tab N n) N Tryz.f127 α [.int .i64 x,.bool b] k=k (b1 false):=by
 exact⟨8,8,fun α k=>way0_text 8 0 α x b k⟩
noncomputable def way0S:Fsp:=fun _ args k=>match args with
 | [.int .i64 x,.bool b]=>k (b1 false)
 |_=>none
theorem way0S_ok:FspOk Tryz.prog 127 way0S:=tower_S fsL0_ok spC_ok ⟨Tryz.func127,fun _ _=>by kernel_rfl⟩ (by intro α args k; unfold way0S; split<;>rfl) fun args out hSm hEq=>by
 unfold way0S at hEq
 split at hEq
 ·rename_i x b
  obtain⟨N,n,e⟩:=way0_fin x b hSm
  exact⟨N,n,(e AOut some).trans hEq⟩
 ·cases hEq
theorem way1_fin (x:Int) (b:Bool) (hs:∀c∈([.int .i64 x,.bool b]:List AVal),Sm c):∃N n,∀α (k:AOut→Option α),evFn real tab ((twT fsL0 spC).env real tab N n) N Tryz.f128 α [.int .i64 x,.bool b] k=k (b1 b):=by
 exact⟨8,8,fun α k=>way1_text 8 0 α x b k⟩
noncomputable def way1S:Fsp:=fun _ args k=>match args with
 | [.int .i64 x,.bool b]=>k (b1 b)
 |_=>none
theorem way1S_ok:FspOk Tryz.prog 128 way1S:=tower_S fsL0_ok spC_ok ⟨Tryz.func128,fun _ _=>by kernel_rfl⟩ (by intro α args k; unfold way1S; split<;>rfl) fun args out hSm hEq=>by
 unfold way1S at hEq
 split at hEq
 ·rename_i x b
  obtain⟨N,n,e⟩:=way1_fin x b hSm
  exact⟨N,n,(e AOut some).trans hEq⟩
 ·cases hEq
theorem way2_fin (x:Int) (b:Bool) (hs:∀c∈([.int .i64 x,.bool b]:List AVal),Sm c):∃N n,∀α (k:AOut→Option α),evFn real tab ((twT fsL0 spC).env real tab N n) N Tryz.f129 α [.int .i64 x,.bool b] k=k (b1 (!b)):=by
 exact⟨8,8,fun α k=>way2_text 8 0 α x b k⟩
noncomputable def way2S:Fsp:=fun _ args k=>match args with
 | [.int .i64 x,.bool b]=>k (b1 (!b))
 |_=>none
theorem way2S_ok:FspOk Tryz.prog 129 way2S:=tower_S fsL0_ok spC_ok ⟨Tryz.func129,fun _ _=>by kernel_rfl⟩ (by intro α args k; unfold way2S; split<;>rfl) fun args out hSm hEq=>by
 unfold way2S at hEq
 split at hEq
 ·rename_i x b
  obtain⟨N,n,e⟩:=way2_fin x b hSm
  exact⟨N,n,(e AOut some).trans hEq⟩
 ·cases hEq
theorem way3_fin (x:Int) (b:Bool) (hs:∀c∈([.int .i64 x,.bool b]:List AVal),Sm c):∃N n,∀α (k:AOut→Option α),evFn real tab ((twT fsL0 spC).env real tab N n) N Tryz.f130 α [.int .i64 x,.bool b] k=k (b1 (decide (x≥0))):=by
 exact⟨8,8,fun α k=>way3_text 8 0 α x b k⟩
noncomputable def way3S:Fsp:=fun _ args k=>match args with
 | [.int .i64 x,.bool b]=>k (b1 (decide (x≥0)))
 |_=>none
theorem way3S_ok:FspOk Tryz.prog 130 way3S:=tower_S fsL0_ok spC_ok ⟨Tryz.func130,fun _ _=>by kernel_rfl⟩ (by intro α args k; unfold way3S; split<;>rfl) fun args out hSm hEq=>by
 unfold way3S at hEq
 split at hEq
 ·rename_i x b
  obtain⟨N,n,e⟩:=way3_fin x b hSm
  exact⟨N,n,(e AOut some).trans hEq⟩
 ·cases hEq
set_option maxRecDepth 100000 in
theorem up2_text (N n0:Nat) (α:Type) (h l:Int) (k:AOut→Option α):evFn real tab ((twT fsL0 spC).env real tab N (n0+8)) N Tryz.f132 α [.agg [.int .u64 h,.int .u64 l],.int .u64 2] k =
 k (AOut.ret (AVal.agg [AVal.int IntKind.u64 (IntKind.u64.wrap (↑(BitVec.ofInt 64 (IntKind.u64.wrap (h*2^min (Int.toNat 2) 64)) ||| BitVec.ofInt 64 (l.fdiv (2^min
 (IntKind.u64.wrap (64-2)).toNat 64))).toNat:Int)),AVal.int IntKind.u64 (IntKind.u64.wrap (l*2^min (Int.toNat 2) 64))])):=by kernel_rfl
noncomputable def up2S:Fsp:=fun _ args k=>match args with
 | [.agg [.int .u64 h,.int .u64 l],.int .u64 n]=>bif n==2&&rtB h l then k (.ret (.agg [uN (hiW (4*vw h l)),uN (loW (4*vw h l))])) else none
 |_=>none
theorem up2_plain {h l:Int} (hb:rtB h l=true):IntKind.u64.wrap (((BitVec.ofInt 64 (IntKind.u64.wrap (h*2^min (Int.toNat 2) 64)) ||| BitVec.ofInt 64 (l.fdiv (2^min (IntKind.u64.wrap (64-2)).toNat 64))).toNat:Nat):Int)=hiW (4*vw h l)∧IntKind.u64.wrap (l*2^min (Int.toNat 2) 64)=loW (4*vw h l):=by
 simp only[rtB,Bool.and_eq_true,decide_eq_true_eq,wB_iff] at hb
 obtain⟨⟨hh,hl⟩,hs⟩:=hb
 unfold Word at hh hl
 have k4:(2:Int)^min (Int.toNat 2) 64=4:=rfl
 have k62:(2:Int)^min (IntKind.u64.wrap (64-2)).toNat 64=4611686018427387904:=by
  have:(IntKind.u64.wrap (64-2)).toNat=62:=by rw[IntKind.wrap_u64]; rfl
  rw[this]; rfl
 have hv:vw h l=h*18446744073709551616+l:=rfl
 rw[hv] at hs ⊢
 rw[k4,k62,fdiv_pos _ (by omega),u64w (h*4) (by omega),or_add 2 (by omega) (by omega) (by omega) (by omega),IntKind.wrap_u64]
 unfold hiW loW
 exact⟨by omega,by omega⟩
theorem up2S_ok:FspOk Tryz.prog 132 up2S:=tower_S fsL0_ok spC_ok ⟨Tryz.func132,fun _ _=>by kernel_rfl⟩ (by intro α args k; unfold up2S; split<;>simp only[cond_bind,Option.bind_some,Option.bind_none]) fun args out hs hq=>by
 unfold up2S at hq
 split at hq
 ·rename_i h l n
  by_cases hn:n=2
  ·subst hn
   cases hb:rtB h l
   ·rw[hb] at hq; cases hq
   ·rw[hb] at hq
    refine⟨8,8,(up2_text 8 0 AOut h l some).trans (Eq.trans ?_ hq)⟩
    rw[(up2_plain hb).1,(up2_plain hb).2]
    rfl
  ·rw[show (n==2)=false by simp[hn]] at hq; cases hq
 ·cases hq
noncomputable def fsL1:FuncId→Option Fsp:=fun g=>
 if g=131 then some rootWS else
 if g=127 then some way0S else
 if g=128 then some way1S else
 if g=129 then some way2S else
 if g=130 then some way3S else
 if g=132 then some up2S else
 fsL0 g
theorem fsL1_ok:FsOk fsL1:=
 fs_cons rootWS_ok <|
 fs_cons way0S_ok <|
 fs_cons way1S_ok <|
 fs_cons way2S_ok <|
 fs_cons way3S_ok <|
 fs_cons up2S_ok <|
 fsL0_ok
noncomputable def rEnd {α:Type} (x:Int) (k:AOut→Option α):Option α:=bif wB x then (bif fxB x then k (i1 (sg false x)) else k (mis fxm 4)) else none
noncomputable def rootText {α:Type} (h l r m r1:Int) (u:Bool) (k:AOut→Option α):Option α:=
 bif rtB h l then
  bif wBc r&&wBc r then
   bif !(hiW (r*r)==h&&(loW (r*r)==l&&true)) then
    bif (2:Int)==2&&rtB h l then
     bif wBc m&&wBc m then
      bif wBc (loW (4*vw h l))&&wBc (loW (m*m)) then (bif u then rEnd r1 k else rEnd r k)
      else none
     else none
    else none
   else rEnd r k
  else none
 else none
noncomputable def upW (how s:Int):Bool:=if how=2 then true else if how=3 then decide ((2*rt s+1)*(2*rt s+1)≤4*s) else false
theorem ge_cmp3 (a b:Int):decide (cmp3 a b≥0)=decide (b≤a):=by
 unfold cmp3
 rw[decide_eq_decide]
 split
 ·constructor<;>intro _<;>omega
 ·split<;>constructor<;>intro _<;>omega
theorem vw_eq {x h l:Int} (hl:Word l):(hiW x==h&&(loW x==l&&true))=(x==vw h l):=by
 rw[Bool.and_true,Bool.eq_iff_iff,Bool.and_eq_true,beq_iff_eq,beq_iff_eq,beq_iff_eq]
 unfold hiW loW vw
 unfold Word at hl
 constructor
 ·rintro⟨rfl,rfl⟩; omega
 ·intro h; subst h; omega
theorem rEnd_of {α:Type} {x:Int} (h:0≤x∧x<18446744073709551616) (k:AOut→Option α):rEnd x k=fitK false x k:=by
 unfold rEnd; rw[wB_iff.2 h]; rfl
theorem root_fin {α:Type} {h l how:Int} (hb:rtB h l=true) {u:Bool} (hu:u=upW how (vw h l)) (k:AOut→Option α):rootText h l (rt (vw h l)) (2*rt (vw h l)+1) (rt (vw h l)+1) u k=fitK false (rtN (vw h l) how) k:=by
 have hb':=hb
 simp only[rtB,Bool.and_eq_true,decide_eq_true_eq,wB_iff] at hb'
 obtain⟨⟨hh,hl⟩,hs⟩:=hb'
 have h0:0≤vw h l:=by unfold vw Word at *; omega
 obtain⟨a,b,c,d⟩:=rt_spec h0 hs
 unfold rootText
 rw[hb,vw_eq hl,wBc_eq,wB_iff.2 (show Word (rt (vw h l)) from ⟨a,by omega⟩),wB_iff.2 (show Word (2*rt (vw h l)+1) from ⟨by omega,by omega⟩),lo_wB,lo_wB,rEnd_of (x:=rt (vw h l)) ⟨a,by omega⟩,rEnd_of (x:=rt (vw h l)+1) ⟨by omega,by omega⟩,hu]
 unfold rtN
 generalize vw h l=s at *
 have sq:(2*rt s+1)*(2*rt s+1)=4*(rt s*rt s)+4*rt s+1:=by
  rw[Int.add_mul,Int.mul_add,Int.one_mul,Int.mul_one,show 2*rt s*(2*rt s)=4*(rt s*rt s) by rw[Int.mul_assoc,Int.mul_left_comm (rt s) 2,←Int.mul_assoc]; rfl]
  omega
 have e2:((2:Int)==2)=true:=rfl
 unfold upW rtUp
 rw[e2]
 by_cases hq:rt s*rt s=s
 ·have e3:(rt s*rt s==s)=true:=by rw[hq]; simp
  have e4:decide ((2*rt s+1)*(2*rt s+1)≤4*s)=false:=decide_eq_false (by omega)
  rw[e3,e4]
  split
  ·simp
  ·split<;>simp
 ·have e3:(rt s*rt s==s)=false:=by simpa using hq
  rw[e3]
  split
  ·simp
  ·split
   ·cases decide ((2*rt s+1)*(2*rt s+1)≤4*s)<;>simp
   ·simp
noncomputable def rootFS:Fsp:=fun _ args k=>match args with
 | [.agg [.int .u64 h,.int .u64 l],.fn g []]=>
   match howOf g with
   |some how=>bif rtB h l then fitK false (rtN (vw h l) how) k else none
   |none=>none
 |_=>none
noncomputable abbrev rM (h l:Int):Int:=IntKind.u64.wrap (IntKind.u64.wrap (2*rt (vw h l))+1)
noncomputable abbrev rO (h l:Int):Int:=IntKind.u64.wrap (rt (vw h l)+1)
set_option maxRecDepth 100000 in
theorem root0_text (N n:Nat) (α:Type) (h l:Int) (k:AOut→Option α):evFn real tab ((twT fsL1 spC).env real tab N (n+8)) N Tryz.f76 α [.agg [uN h,uN l],.fn 127 []] k=rootText h l (rt (vw h l)) (rM h l) (rO h l) false k:=by kernel_rfl
set_option maxRecDepth 100000 in
theorem root1_text (N n:Nat) (α:Type) (h l:Int) (k:AOut→Option α):evFn real tab ((twT fsL1 spC).env real tab N (n+8)) N Tryz.f76 α [.agg [uN h,uN l],.fn 128 []] k=rootText h l (rt (vw h l)) (rM h l) (rO h l) false k:=by kernel_rfl
set_option maxRecDepth 100000 in
theorem root2_text (N n:Nat) (α:Type) (h l:Int) (k:AOut→Option α):evFn real tab ((twT fsL1 spC).env real tab N (n+8)) N Tryz.f76 α [.agg [uN h,uN l],.fn 129 []] k=rootText h l (rt (vw h l)) (rM h l) (rO h l) true k:=by kernel_rfl
set_option maxRecDepth 100000 in
theorem root3_text (N n:Nat) (α:Type) (h l:Int) (k:AOut→Option α):evFn real tab ((twT fsL1 spC).env real tab N (n+8)) N Tryz.f76 α [.agg [uN h,uN l],.fn 130 []] k=rootText h l (rt (vw h l)) (rM h l) (rO h l) (decide (cmp3 (vw (hiW (4*vw h l)) (loW (4*vw h l))) (vw (hiW (rM h l*rM h l)) (loW (rM h l*rM h l)))≥0)) k:=by kernel_rfl
theorem rM_eq {h l:Int} (hb:rtB h l=true):rM h l=2*rt (vw h l)+1∧rO h l=rt (vw h l)+1:=by
 simp only[rtB,Bool.and_eq_true,decide_eq_true_eq,wB_iff] at hb
 obtain⟨⟨hh,hl⟩,hs⟩:=hb
 obtain⟨a,b,c,d⟩:=rt_spec (s:=vw h l) (by unfold vw Word at *; omega) hs
 unfold rM rO
 rw[u64w (2*rt (vw h l)) (by omega),u64w (2*rt (vw h l)+1) (by omega),u64w (rt (vw h l)+1) (by omega)]
 exact⟨rfl,rfl⟩
theorem rootFS_ok:FspOk Tryz.prog 76 rootFS:=tower_S fsL1_ok spC_ok ⟨Tryz.func76,fun _ _=>by kernel_rfl⟩ (by intro α args k; unfold rootFS; split<;>(try split)<;>simp only[cond_bind,fitK_bind,Option.bind_some,Option.bind_none]) fun args out hs hq=>by
 unfold rootFS at hq
 split at hq
 ·rename_i h l g
  split at hq
  ·rename_i how hg
   cases hb:rtB h l
   ·rw[hb] at hq; cases hq
   ·rw[hb,cond_true] at hq
    obtain⟨m1,m2⟩:=rM_eq hb
    rcases how_cases hg with hf|⟨rfl,rfl⟩|⟨rfl,rfl⟩|⟨rfl,rfl⟩|⟨rfl,rfl⟩
    ·cases hf
    ·refine⟨64,8,(root0_text 64 0 AOut h l some).trans (Eq.trans ?_ hq)⟩
     rw[m1,m2]; exact root_fin (how:=0) hb (by simp[upW]) some
    ·refine⟨64,8,(root1_text 64 0 AOut h l some).trans (Eq.trans ?_ hq)⟩
     rw[m1,m2]; exact root_fin (how:=1) hb (by simp[upW]) some
    ·refine⟨64,8,(root2_text 64 0 AOut h l some).trans (Eq.trans ?_ hq)⟩
     rw[m1,m2]; exact root_fin (how:=2) hb (by simp[upW]) some
    ·refine⟨64,8,(root3_text 64 0 AOut h l some).trans (Eq.trans ?_ hq)⟩
     rw[m1,m2,vw_hl,vw_hl,ge_cmp3]; exact root_fin (how:=3) hb (by simp[upW]) some
  ·cases hq
 ·cases hq
noncomputable def fsL2:FuncId→Option Fsp:=fun g=>
 if g=76 then some rootFS else
 fsL1 g
theorem fsL2_ok:FsOk fsL2:=
 fs_cons rootFS_ok <|
 fsL1_ok
noncomputable def rtBr {α:Type} (h l how:Int) (k:AOut→Option α):Option α:=
 bif rtB h l then
  bif fxB (rtN (vw h l) how) then k (i2 (sg false (rtN (vw h l) how)) 0) else k (i2 0 4)
 else none
noncomputable def by4 {α:Type} (how:Int) (B:Int→Option α) (E:Option α):Option α:=bif how==0 then B 0 else bif how==1 then B 1 else bif how==2 then B 2 else bif how==3 then B 3 else E
theorem by4_eq {α:Type} (how:Int) (B:Int→Option α) (E:Option α):by4 how B E=bif wayB how then B how else E:=by
 unfold by4
 cases hw:wayB how
 ·have h0:¬(0≤how∧how≤3):=fun h=>by rw[show wayB how=true by simp[wayB]; omega] at hw; cases hw
  rw[show (how==0)=false by simp; omega,show (how==1)=false by simp; omega,show (how==2)=false by simp; omega,show (how==3)=false by simp; omega]
  rfl
 ·rcases way_cases hw with rfl|rfl|rfl|rfl<;>rfl
theorem rtBr_eq {α:Type} {s:Int} (how:Int) (h0:0≤s) (h1:s<85070591730234615865843651857942052864) (k:AOut→Option α):rtBr (hiW s) (loW s) how k=k (i2 (fxV false (rtN s how)) (fxE (rtN s how))):=by
 have hb:rtB (hiW s) (loW s)=true:=by
  unfold rtB
  rw[hi_wB ⟨h0,by omega⟩,lo_wB,vw_hl,decide_eq_true h1]; rfl
 unfold rtBr
 rw[hb,vw_hl]
 unfold fxV fxE
 cases fxB (rtN s how)<;>rfl
set_option maxRecDepth 100000 in
theorem flen_text (N n0:Nat) (α:Type) (x y how:Int) (k:AOut→Option α):evFn real tab ((twT fsL2 spL).env real tab N (n0+8)) N Tryz.f36 α [.agg [.int .i64 x,.int .i64 y],.int .i64 how] k =
 bif okB x&&okB y then by4 how (fun how=>rtBr (hiW (sq2 x y)) (loW (sq2 x y)) how k) (k (i2 0 2)) else k (i2 0 2):=by kernel_rfl
theorem sq2_in' {x y:Int} (hx:okB x=true) (hy:okB y=true):0≤sq2 x y∧sq2 x y≤9903520314283042199192993792:=by
 have a:=ab_mul_in hx hx
 have b:=ab_mul_in hy hy
 unfold sq2
 omega
theorem flen_fin (x y how:Int) (hs:∀c∈([.agg [.int .i64 x,.int .i64 y],.int .i64 how]:List AVal),Sm c):∃N n,∀α (k:AOut→Option α),evFn real tab ((twT fsL2 spL).env real tab N n) N Tryz.f36 α [.agg [.int .i64 x,.int .i64 y],.int .i64 how] k=k (i2 (lenV x y how) (lenE x y how)):=by
 refine⟨64,8,fun α k=>(flen_text 64 0 α x y how k).trans ?_⟩
 rw[by4_eq]
 unfold lenV lenE lenB
 cases hx:okB x
 ·rfl
 ·cases hy:okB y
  ·rfl
  ·cases hw:wayB how
   ·rfl
   ·have s:=sq2_in' hx hy
    rw[rtBr_eq how (by omega) (by omega)]
    rfl
noncomputable def flenS:Fsp:=fun _ args k=>match args with
 | [.agg [.int .i64 x,.int .i64 y],.int .i64 how]=>k (i2 (lenV x y how) (lenE x y how))
 |_=>none
theorem flenS_ok:FspOk Tryz.prog 36 flenS:=tower_S fsL2_ok spL_ok ⟨Tryz.func36,fun _ _=>by kernel_rfl⟩ (by intro α args k; unfold flenS; split<;>rfl) fun args out hSm hEq=>by
 unfold flenS at hEq
 split at hEq
 ·rename_i x y how
  obtain⟨N,n,e⟩:=flen_fin x y how hSm
  exact⟨N,n,(e AOut some).trans hEq⟩
 ·cases hEq
def mpV (a b how:Int):Int:=bif okB a&&okB b&&wayB how then fxV (xorB (ngB a) (ngB b)) (prP a b how) else 0
def mpE (a b how:Int):Int:=bif okB a&&okB b&&wayB how then fxE (prP a b how) else 2
set_option maxRecDepth 100000 in
theorem fmul_text (N n0:Nat) (α:Type) (x y how:Int) (k:AOut→Option α):evFn real tab ((twT fsL2 spL).env real tab N (n0+8)) N Tryz.f244 α [.int .i64 x,.int .i64 y,.int .i64 how] k =
 by4 how (fun how=>bif okB x&&okB y then bif fxB (prP x y how) then k (i2 (sg (xorB (ngB x) (ngB y)) (prP x y how)) 0) else k (i2 0 4) else k (i2 0 2)) (k (i2 0 2)):=by
 kernel_rfl
theorem fmul_fin (x y how:Int) (hs:∀c∈([.int .i64 x,.int .i64 y,.int .i64 how]:List AVal),Sm c):∃N n,∀α (k:AOut→Option α),evFn real tab ((twT fsL2 spL).env real tab N n) N Tryz.f244 α [.int .i64 x,.int .i64 y,.int .i64 how] k=k (i2 (mpV x y how) (mpE x y how)):=by
 refine⟨8,8,fun α k=>(fmul_text 8 0 α x y how k).trans ?_⟩
 rw[by4_eq]
 unfold mpV mpE fxV fxE
 cases okB x<;>cases okB y<;>cases wayB how<;>cases fxB (prP x y how)<;>rfl
noncomputable def fmulS:Fsp:=fun _ args k=>match args with
 | [.int .i64 x,.int .i64 y,.int .i64 how]=>k (i2 (mpV x y how) (mpE x y how))
 |_=>none
theorem fmulS_ok:FspOk Tryz.prog 244 fmulS:=tower_S fsL2_ok spL_ok ⟨Tryz.func244,fun _ _=>by kernel_rfl⟩ (by intro α args k; unfold fmulS; split<;>rfl) fun args out hSm hEq=>by
 unfold fmulS at hEq
 split at hEq
 ·rename_i x y how
  obtain⟨N,n,e⟩:=fmul_fin x y how hSm
  exact⟨N,n,(e AOut some).trans hEq⟩
 ·cases hEq
def z0 (P:Int):Bool:=hiW P==0&&(loW P==0&&true)
noncomputable def fsL3:FuncId→Option Fsp:=fun g=>
 if g=36 then some flenS else
 if g=244 then some fmulS else
 fsL2 g
theorem fsL3_ok:FsOk fsL3:=
 fs_cons flenS_ok <|
 fs_cons fmulS_ok <|
 fsL2_ok
section
variable {X α σ:Type}
def fstX (q:X→Bool) (d:X) (xs:List X):Int:=match (List.range xs.length).find? fun i=>q (xs.getD i d) with
 |some i=>i
 |none=>-1
theorem any_rangeX (xs:List X) (d:X) (q:X→Bool):((List.range xs.length).any fun i=>q (xs.getD i d))=xs.any q:=by
 rw[Bool.eq_iff_iff,List.any_eq_true,List.any_eq_true]
 constructor
 ·rintro⟨i,hi,hq⟩
  have hlt:=List.mem_range.1 hi
  rw[List.getD_eq_getElem?_getD,List.getElem?_eq_getElem hlt] at hq
  exact⟨_,List.getElem_mem hlt,hq⟩
 ·rintro⟨x,hx,hq⟩
  obtain⟨i,hlt,rfl⟩:=List.mem_iff_getElem.1 hx
  refine⟨i,List.mem_range.2 hlt,?_⟩
  rw[List.getD_eq_getElem?_getD,List.getElem?_eq_getElem hlt]
  exact hq
theorem fst_anyX (q:X→Bool) (d:X) (xs:List X):decide (fstX q d xs≥0)=xs.any q:=by
 rw[←any_rangeX xs d]
 unfold fstX
 cases h:(List.range xs.length).find? fun i=>q (xs.getD i d) with
 |none=>
  rw[List.find?_eq_none] at h
  symm
  simpa using h
 |some i=>
  have h1:=List.find?_some h
  have h2:=List.mem_of_find?_eq_some h
  rw[List.any_eq_true.2 ⟨i,h2,h1⟩]
  simp
def findL (b N:Nat) (xs:List X) (d:X) (q:X→Bool) (R:Int→Option α) (E:Option α):Option α:=
 afterL
  (iterL N
   (fun x:Int × Unit=>
    bif decide (x.1<(xs.length:Int)) then
     if 0≤x.1∧x.1<(xs.length:Int) then
      bif q (xs.getD x.1.toNat d) then finL (R x.1)
      else some (LRes.cont (IntKind.i64.wrap (x.1+1),()))
     else none
    else some (LRes.brk b (x.1,())))
   (0,()))
  fun id _=>if id=b then E else none
theorem findL_eq (b:Nat) (xs:List X) (hl:xs.length≤maxLen) (d:X) (q:X→Bool) (R:Int→Option α) (E:Option α):findL b (xs.length+1) xs d q R E=bif xs.any q then R (fstX q d xs) else E:=by
 unfold findL
 generalize hf:(fun x:Int × Unit=>(_:Option (LRes (Int × Unit) α)))=f
 have e:iterL (xs.length+1) f (0,())=match (List.range xs.length).find? (fun i=>q (xs.getD i d)) with|some i=>finL (R (i:Int))|none=>some (.brk b ((xs.length:Int),())):=by
  refine iterL_find (f:=f) (fun i:Nat=>((i:Int),())) _ (fun i=>fin_not _) (brk_not _ _) xs.length (fun i hi=>?_) ?_
  ·rw[←hf]
   have h1:decide ((i:Int)<(xs.length:Int))=true:=decide_eq_true (by omega)
   simp only[h1,cond_true]
   rw[if_pos ⟨by omega,by omega⟩]
   have h2:IntKind.i64.wrap ((i:Int)+1)=((i+1:Nat):Int):=wrap_small (n:=i+1) (by omega)
   rw[h2]
   rfl
  ·rw[←hf]
   have h1:decide ((xs.length:Int)<(xs.length:Int))=false:=decide_eq_false (by omega)
   simp only[h1,cond_false]
 rw[e,←fst_anyX q d]
 unfold fstX
 cases (List.range xs.length).find? fun i=>q (xs.getD i d) with
 |none=>exact if_pos rfl
 |some i=>
  have:decide ((i:Int)≥0)=true:=decide_eq_true (by omega)
  simp only[this,cond_true]
  cases R (i:Int)<;>rfl
theorem findL_idx (b:Nat) (xs:List X) (hl:xs.length≤maxLen) (d:X) (q:X→Bool) (k:AOut→Option α):findL b (xs.length+1) xs d q (fun i=>k (i1 i)) (k (i1 (-1)))=k (i1 (fstX q d xs)):=by
 rw[findL_eq b xs hl,←fst_anyX q d]
 cases h:decide (fstX q d xs≥0)
 ·simp only[cond_false]
  have h:=of_decide_eq_false h
  unfold fstX at h ⊢
  cases hq:(List.range xs.length).find? fun i=>q (xs.getD i d) with
  |none=>rfl
  |some i=>rw[hq] at h; simp only at h; omega
 ·rfl
theorem count_loop {f:σ→Option (LRes σ α)} {K:Nat→σ→Option α} (st:Nat→σ) (n:Nat) {b:Nat} {y:σ} (h:∀i,i<n→f (st i)=some (.cont (st (i+1)))) (hend:f (st n)=some (.brk b y)) {N:Nat} (hN:n<N):afterL (iterL N f (st 0)) K=K b y:=by
 rw[iterL_count st (brk_not b y) n h hend 0 (Nat.zero_le _) N (by omega)]
 rfl
theorem any_loop {f:σ→Option (LRes σ α)} {K:Nat→σ→Option α} (st:Nat→σ) (n:Nat) (p:Nat→Bool) {b:Nat} {y:σ} (R:Option α) (h:∀i,i<n→f (st i)=bif p i then finL R else some (.cont (st (i+1)))) (hend:f (st n)=some (.brk b y)):afterL (iterL (n+1) f (st 0)) K=bif (List.range n).any p then R else K b y:=by
 rw[iterL_any st p (fin_not R) (brk_not b y) n h hend]
 cases (List.range n).any p
 ·rfl
 ·cases R<;>rfl
end
theorem lt_len {i n:Nat} (h:i<n):decide ((i:Int)<(n:Int))=true:=decide_eq_true (by omega)
theorem not_lt_len {n:Nat}:decide ((n:Int)<(n:Int))=false:=decide_eq_false (by omega)
theorem in_len {i n:Nat} (h:i<n):0≤(i:Int)∧(i:Int)<(n:Int):=⟨by omega,by omega⟩
theorem wrap_next {i n:Nat} (h:i<n) (hn:n≤maxLen):IntKind.i64.wrap ((i:Int)+1)=((i+1:Nat):Int):=wrap_small (n:=i+1) (by omega)
end Go.Proofs.YtenolfpkkgcgcaaGreat
