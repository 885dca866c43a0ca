/- Parts of the proof, in build order. -/
import Derived.Test.YteaadpgpihggeaaGreatM7
import Derived.WalkKit
import Derived.WalkSpells
import Derived.WalkLawsBesides
import Derived.RegionTactic
import Derived.LoopTactic
import Derived.Outline
import Derived.Below
import Derived.Lib.Hide
import Derived.StillTailTactics
import Derived.Maps.Own
import Derived.Test.YteaadpgpihggeaaGreatM6
namespace Go.Proofs.YteaadpgpihggeaaGreat
open Go.RowKit
def fitT {α : Type} (neg : Bool) (n : Int) (k : AOut → Option α) : Option α := bif fxB n then k (i2 (sg neg n) 0) else k (i2 0 4)
theorem fitT_eq {α : Type} (neg : Bool) (n : Int) (k : AOut → Option α) : fitT neg n k = k (i2 (fxV neg n) (fxE n)) := by
  unfold fitT fxV fxE; cases fxB n <;> rfl
/-! Times. -/
def tiOk (x y b : Int) : Bool := okB x && okB y && okB b
def tiFit (x y b how : Int) : Bool := fxB (prP x b how) && fxB (prP y b how)
def tiV (x y b how c : Int) : Int := bif tiOk x y b && tiFit x y b how then sg (xorB (ngB c) (ngB b)) (prP c b how) else 0
def tiE (x y b how : Int) : Int := bif tiOk x y b then (bif tiFit x y b how then 0 else 4) else 2
def timesS : Fsp := fun _ args k => match args with
  | [.agg [.int .i64 x, .int .i64 y], .int .i64 b, .int .i64 how] => bif wayB how then k (s2 (tiV x y b how x) (tiV x y b how y) (tiE x y b how)) else none
  | _ => none
def timesText {α : Type} (x y b how : Int) (k : AOut → Option α) : Option α :=
  bif [x, y, b].all okB then
    bif [x, y, x, y].all okB then
      bif okB x && okB b then
        bif fxB (prP x b how) then
          bif okB y && okB b then
            bif fxB (prP y b how) then k (s2 (sg (xorB (ngB x) (ngB b)) (prP x b how)) (sg (xorB (ngB y) (ngB b)) (prP y b how)) 0)
            else k (s2 0 0 4)
          else k (s2 0 0 2)
        else k (s2 0 0 4)
      else k (s2 0 0 2)
    else k (s2 0 0 2)
  else k (s2 0 0 2)
theorem times_fin {α : Type} (x y b how : Int) (k : AOut → Option α) : timesText x y b how k = k (s2 (tiV x y b how x) (tiV x y b how y) (tiE x y b how)) := by
  unfold timesText tiV tiE tiOk tiFit
  rw [all3, all4]
  cases okB x <;> cases okB y <;> cases okB b <;> cases fxB (prP x b how) <;> cases fxB (prP y b how) <;> rfl
theorem times0_text (N n : Nat) (α : Type) (x y b : Int) (k : AOut → Option α) : evFn real tab ((twT fsE spB).env real tab N (n + 6)) N Tryz.f147 α [sN x y, iN b, iN 0] k = timesText x y b 0 k := by kernel_rfl
theorem times1_text (N n : Nat) (α : Type) (x y b : Int) (k : AOut → Option α) : evFn real tab ((twT fsE spB).env real tab N (n + 6)) N Tryz.f147 α [sN x y, iN b, iN 1] k = timesText x y b 1 k := by kernel_rfl
theorem times2_text (N n : Nat) (α : Type) (x y b : Int) (k : AOut → Option α) : evFn real tab ((twT fsE spB).env real tab N (n + 6)) N Tryz.f147 α [sN x y, iN b, iN 2] k = timesText x y b 2 k := by kernel_rfl
theorem times3_text (N n : Nat) (α : Type) (x y b : Int) (k : AOut → Option α) : evFn real tab ((twT fsE spB).env real tab N (n + 6)) N Tryz.f147 α [sN x y, iN b, iN 3] k = timesText x y b 3 k := by kernel_rfl
theorem timesS_ok : FspOk Tryz.prog 147 timesS := tower_S fsE_ok spB_ok ⟨Tryz.func147, fun _ _ => by kernel_rfl⟩ (by intro α args k; unfold timesS; split <;> simp only [cond_bind, Option.bind_some, Option.bind_none]) fun args out hs h => by
  unfold timesS at h
  split at h
  · rename_i x y b how
    cases hw : wayB how
    · rw [hw] at h; cases h
    · rw [hw, cond_true] at h
      rcases way_cases hw with rfl | rfl | rfl | rfl
      · exact ⟨8, 6, (times0_text 8 0 AOut x y b some).trans ((times_fin ..).trans h)⟩
      · exact ⟨8, 6, (times1_text 8 0 AOut x y b some).trans ((times_fin ..).trans h)⟩
      · exact ⟨8, 6, (times2_text 8 0 AOut x y b some).trans ((times_fin ..).trans h)⟩
      · exact ⟨8, 6, (times3_text 8 0 AOut x y b some).trans ((times_fin ..).trans h)⟩
  · cases h
/-! Dot. -/
def dtP (s how : Int) : Int := rndP how (ngB s) (ab s) 65536
def dtV (x y u v how : Int) : Int := bif four x y u v then fxV (ngB (dotS x y u v)) (dtP (dotS x y u v) how) else 0
def dtE (x y u v how : Int) : Int := bif four x y u v then fxE (dtP (dotS x y u v) how) else 2
def dotPS : Fsp := fun _ args k => match args with
  | [.agg [.int .i64 x, .int .i64 y], .agg [.int .i64 u, .int .i64 v], .int .i64 how] => bif wayB how then k (i2 (dtV x y u v how) (dtE x y u v how)) else none
  | _ => none
def dotText {α : Type} (x u v w how : Int) (k : AOut → Option α) : Option α :=
  bif [x, u, v, w].all okB then
    bif i6 x then
      bif i6 v then
        bif wB (ab x) && wB (ab v) then
          bif i6 u then
            bif i6 w then
              bif wB (ab u) && wB (ab w) then
                bif (!(decide (x < 0) == decide (v < 0))) == (!(decide (u < 0) == decide (w < 0))) then
                  bif wB (hiW (ab x * ab v)) && wB (loW (ab x * ab v)) && wB (hiW (ab u * ab w)) && wB (loW (ab u * ab w)) && decide (vw (hiW (ab x * ab v)) (loW (ab x * ab v)) + vw (hiW (ab u * ab w)) (loW (ab u * ab w)) < 340282366920938463463374607431768211456) then
                    bif wB (hiW (vw (hiW (ab x * ab v)) (loW (ab x * ab v)) + vw (hiW (ab u * ab w)) (loW (ab u * ab w)))) && wB (loW (vw (hiW (ab x * ab v)) (loW (ab x * ab v)) + vw (hiW (ab u * ab w)) (loW (ab u * ab w)))) && wB 65536 && decide ((0 : Int) < 65536) then
                      fitT (!(decide (x < 0) == decide (v < 0))) (rndP how (!(decide (x < 0) == decide (v < 0))) (vw (hiW (vw (hiW (ab x * ab v)) (loW (ab x * ab v)) + vw (hiW (ab u * ab w)) (loW (ab u * ab w)))) (loW (vw (hiW (ab x * ab v)) (loW (ab x * ab v)) + vw (hiW (ab u * ab w)) (loW (ab u * ab w))))) 65536) k
                    else none
                  else none
                else
                  bif wB (loW (ab x * ab v)) && wB (loW (ab u * ab w)) then
                    bif decide (cmp3 (vw (hiW (ab x * ab v)) (loW (ab x * ab v))) (vw (hiW (ab u * ab w)) (loW (ab u * ab w))) ≥ 0) then
                      bif wB (hiW (ab x * ab v)) && wB (loW (ab x * ab v)) && wB (hiW (ab u * ab w)) && wB (loW (ab u * ab w)) && decide (vw (hiW (ab u * ab w)) (loW (ab u * ab w)) ≤ vw (hiW (ab x * ab v)) (loW (ab x * ab v))) then
                        bif wB (hiW (vw (hiW (ab x * ab v)) (loW (ab x * ab v)) - vw (hiW (ab u * ab w)) (loW (ab u * ab w)))) && wB (loW (vw (hiW (ab x * ab v)) (loW (ab x * ab v)) - vw (hiW (ab u * ab w)) (loW (ab u * ab w)))) && wB 65536 && decide ((0 : Int) < 65536) then
                          fitT (!(decide (x < 0) == decide (v < 0))) (rndP how (!(decide (x < 0) == decide (v < 0))) (vw (hiW (vw (hiW (ab x * ab v)) (loW (ab x * ab v)) - vw (hiW (ab u * ab w)) (loW (ab u * ab w)))) (loW (vw (hiW (ab x * ab v)) (loW (ab x * ab v)) - vw (hiW (ab u * ab w)) (loW (ab u * ab w))))) 65536) k
                        else none
                      else none
                    else
                      bif wB (hiW (ab u * ab w)) && wB (loW (ab u * ab w)) && wB (hiW (ab x * ab v)) && wB (loW (ab x * ab v)) && decide (vw (hiW (ab x * ab v)) (loW (ab x * ab v)) ≤ vw (hiW (ab u * ab w)) (loW (ab u * ab w))) then
                        bif wB (hiW (vw (hiW (ab u * ab w)) (loW (ab u * ab w)) - vw (hiW (ab x * ab v)) (loW (ab x * ab v)))) && wB (loW (vw (hiW (ab u * ab w)) (loW (ab u * ab w)) - vw (hiW (ab x * ab v)) (loW (ab x * ab v)))) && wB 65536 && decide ((0 : Int) < 65536) then
                          fitT (!(decide (u < 0) == decide (w < 0))) (rndP how (!(decide (u < 0) == decide (w < 0))) (vw (hiW (vw (hiW (ab u * ab w)) (loW (ab u * ab w)) - vw (hiW (ab x * ab v)) (loW (ab x * ab v)))) (loW (vw (hiW (ab u * ab w)) (loW (ab u * ab w)) - vw (hiW (ab x * ab v)) (loW (ab x * ab v))))) 65536) k
                        else none
                      else none
                  else none
              else none
            else none
          else none
        else none
      else none
    else none
  else k (i2 0 2)
theorem mul_sg (a b : Int) : a * b = sg (xorB (ngB a) (ngB b)) (ab a * ab b) := by
  unfold sg xorB ngB ab
  by_cases h1 : a < 0 <;> by_cases h2 : b < 0 <;> simp [h1, h2, Int.neg_mul, Int.mul_neg]
theorem rnd0 (how : Int) (neg : Bool) : rndP how neg 0 65536 = 0 := by
  unfold rndP rnd up1; simp
theorem fit_sign {α : Type} {s N how : Int} {neg : Bool} (hs : s = sg neg N) (hN : 0 ≤ N) (k : AOut → Option α) : fitT neg (rndP how neg N 65536) k = k (i2 (fxV (ngB s) (dtP s how)) (fxE (dtP s how))) := by
  rw [fitT_eq]
  unfold dtP
  rcases Int.lt_or_eq_of_le hN with h | h
  · have e1 : ngB s = neg ∧ ab s = N := by
      subst hs; unfold ngB ab sg
      cases neg
      · simp only [cond_false]; rw [decide_eq_false (by omega), if_neg (by omega)]; exact ⟨rfl, rfl⟩
      · simp only [cond_true]; rw [decide_eq_true (by omega), if_pos (by omega)]; exact ⟨rfl, by omega⟩
    rw [e1.1, e1.2]
  · subst h
    have e : s = 0 := by subst hs; cases neg <;> rfl
    subst e
    rw [show ab 0 = 0 from rfl, rnd0, rnd0]
    cases neg <;> rfl
theorem dot_fin {α : Type} (x u v w how : Int) (k : AOut → Option α) : dotText x u v w how k = k (i2 (dtV x u v w how) (dtE x u v w how)) := by
  unfold dotText dtV dtE four
  rw [all4]
  cases hx : okB x
  · rfl
  · cases hu : okB u
    · rfl
    · cases hv : okB v
      · rfl
      · cases hw : okB w
        · rfl
        · have p := ab_mul_in hx hv
          have q := ab_mul_in hu hw
          have e1 := mul_sg x v
          have e2 := mul_sg u w
          simp only [i6_ok hx, i6_ok hu, i6_ok hv, i6_ok hw, wB_ab (i6_ok hx), wB_ab (i6_ok hu), wB_ab (i6_ok hv), wB_ab (i6_ok hw), lo_wB, vw_hl, hi_wB (show 0 ≤ ab x * ab v ∧ ab x * ab v < _ from ⟨p.1, by omega⟩), hi_wB (show 0 ≤ ab u * ab w ∧ ab u * ab w < _ from ⟨q.1, by omega⟩), Bool.and_self, cond_true, show wB 65536 = true from rfl, show decide ((0 : Int) < 65536) = true from rfl, Bool.true_and]
          have e3 : dotS x u v w = x * v + u * w := rfl
          have g1 : (!(decide (x < 0) == decide (v < 0))) = xorB (ngB x) (ngB v) := rfl
          have g2 : (!(decide (u < 0) == decide (w < 0))) = xorB (ngB u) (ngB w) := rfl
          rw [g1, g2]
          generalize xorB (ngB x) (ngB v) = m at *
          generalize xorB (ngB u) (ngB w) = n at *
          generalize ab x * ab v = P at *
          generalize ab u * ab w = Q at *
          rw [e1, e2] at e3
          generalize dotS x u v w = s at *
          by_cases hmn : m = n
          · subst hmn
            rw [beq_self_eq_true, cond_true, decide_eq_true (show P + Q < 340282366920938463463374607431768211456 by omega), hi_wB (show 0 ≤ P + Q ∧ P + Q < _ from ⟨by omega, by omega⟩)]
            simp only [Bool.and_self, cond_true]
            exact fit_sign (by rw [e3]; cases m <;> simp [sg]; omega) (by omega) k
          · rw [beq_eq_false_iff_ne.2 hmn, cond_false]
            have hn : n = !m := by cases m <;> cases n <;> simp at hmn ⊢
            subst hn
            by_cases hc : Q ≤ P
            · rw [decide_eq_true (show cmp3 P Q ≥ 0 by unfold cmp3; repeat' split
                                                       all_goals omega), decide_eq_true hc, hi_wB (show 0 ≤ P - Q ∧ P - Q < _ from ⟨by omega, by omega⟩)]
              simp only [Bool.and_self, cond_true]
              exact fit_sign (by rw [e3]; cases m <;> simp [sg] <;> omega) (by omega) k
            · rw [decide_eq_false (show ¬ cmp3 P Q ≥ 0 by unfold cmp3; repeat' split
                                                          all_goals omega), decide_eq_true (show P ≤ Q by omega), hi_wB (show 0 ≤ Q - P ∧ Q - P < _ from ⟨by omega, by omega⟩)]
              simp only [Bool.and_self, cond_true, cond_false]
              exact fit_sign (by rw [e3]; cases m <;> simp [sg] <;> omega) (by omega) k
theorem dot0_text (N n : Nat) (α : Type) (x u v w : Int) (k : AOut → Option α) : evFn real tab ((twT fsE spB).env real tab N (n + 6)) N Tryz.f146 α [sN x u, sN v w, iN 0] k = dotText x u v w 0 k := by kernel_rfl
theorem dot1_text (N n : Nat) (α : Type) (x u v w : Int) (k : AOut → Option α) : evFn real tab ((twT fsE spB).env real tab N (n + 6)) N Tryz.f146 α [sN x u, sN v w, iN 1] k = dotText x u v w 1 k := by kernel_rfl
theorem dot2_text (N n : Nat) (α : Type) (x u v w : Int) (k : AOut → Option α) : evFn real tab ((twT fsE spB).env real tab N (n + 6)) N Tryz.f146 α [sN x u, sN v w, iN 2] k = dotText x u v w 2 k := by kernel_rfl
theorem dot3_text (N n : Nat) (α : Type) (x u v w : Int) (k : AOut → Option α) : evFn real tab ((twT fsE spB).env real tab N (n + 6)) N Tryz.f146 α [sN x u, sN v w, iN 3] k = dotText x u v w 3 k := by kernel_rfl
theorem dotPS_ok : FspOk Tryz.prog 146 dotPS := tower_S fsE_ok spB_ok ⟨Tryz.func146, fun _ _ => by kernel_rfl⟩ (by intro α args k; unfold dotPS; split <;> simp only [cond_bind, Option.bind_some, Option.bind_none]) fun args out hs h => by
  unfold dotPS at h
  split at h
  · rename_i x u v w how
    cases hw : wayB how
    · rw [hw] at h; cases h
    · rw [hw, cond_true] at h
      rcases way_cases hw with rfl | rfl | rfl | rfl
      · exact ⟨8, 6, (dot0_text 8 0 AOut x u v w some).trans ((dot_fin ..).trans h)⟩
      · exact ⟨8, 6, (dot1_text 8 0 AOut x u v w some).trans ((dot_fin ..).trans h)⟩
      · exact ⟨8, 6, (dot2_text 8 0 AOut x u v w some).trans ((dot_fin ..).trans h)⟩
      · exact ⟨8, 6, (dot3_text 8 0 AOut x u v w some).trans ((dot_fin ..).trans h)⟩
  · cases h
/-! Scale. -/
def slP (a n d how : Int) : Int := rndP how (scG a n d) (ab a * ab n) (ab d)
def slOk (a n d : Int) : Bool := okB a && (rateB n && rateB d)
def slV (a n d how : Int) : Int := bif slOk a n d then (bif d == 0 then 0 else fxV (scG a n d) (slP a n d how)) else 0
def slE (a n d how : Int) : Int := bif slOk a n d then (bif d == 0 then 10 else fxE (slP a n d how)) else 2
def scaleS : Fsp := fun _ args k => match args with
  | [.int .i64 a, .int .i64 n, .int .i64 d, .int .i64 how] => bif wayB how then k (i2 (slV a n d how) (slE a n d how)) else none
  | _ => none
def scaleText {α : Type} (x u v how : Int) (k : AOut → Option α) : Option α :=
  bif [x].all okB then
    bif decide (u ≥ -2147483648) then
      bif decide (u ≤ 2147483648) then
        bif decide (v ≥ -2147483648) then
          bif !(decide (v ≤ 2147483648)) then k (i2 0 2)
          else
            bif !(v != 0) then k (i2 0 10)
            else
              bif i6 x then
                bif i6 u then
                  bif wB (ab x) && wB (ab u) then
                    bif i6 v then
                      bif wB (hiW (ab x * ab u)) && wB (loW (ab x * ab u)) && wB (ab v) && decide (0 < ab v) then
                        fitT (!(decide (x < 0) == !(decide (u < 0) == decide (v < 0)))) (rndP how (!(decide (x < 0) == !(decide (u < 0) == decide (v < 0)))) (vw (hiW (ab x * ab u)) (loW (ab x * ab u))) (ab v)) k
                      else none
                    else none
                  else none
                else none
              else none
        else k (i2 0 2)
      else k (i2 0 2)
    else k (i2 0 2)
  else k (i2 0 2)
theorem rate_ok {n : Int} (h : rateB n = true) : okB n = true := by rw [rate_iff] at h; rw [ok_iff]; omega
theorem scale_fin {α : Type} (x u v how : Int) (k : AOut → Option α) : scaleText x u v how k = k (i2 (slV x u v how) (slE x u v how)) := by
  unfold scaleText slV slE slOk
  rw [all1]
  cases hx : okB x
  · rfl
  · have r1 : rateB u = (decide (u ≥ -2147483648) && decide (u ≤ 2147483648)) := rfl
    have r2 : rateB v = (decide (v ≥ -2147483648) && decide (v ≤ 2147483648)) := rfl
    cases hu : rateB u
    · rw [hu] at r1
      cases h1 : decide (u ≥ -2147483648)
      · rfl
      · rw [h1, Bool.true_and] at r1
        rw [← r1]; rfl
    · rw [hu] at r1
      have r1 := Bool.and_eq_true_iff.1 r1.symm
      rw [r1.1, r1.2]
      cases hv : rateB v
      · rw [hv] at r2
        cases h1 : decide (v ≥ -2147483648)
        · rfl
        · rw [h1, Bool.true_and] at r2
          rw [← r2]; rfl
      · rw [hv] at r2
        have r2 := Bool.and_eq_true_iff.1 r2.symm
        rw [r2.1, r2.2]
        by_cases hz : v = 0
        · subst hz; rfl
        · have hu' := rate_ok hu
          have hv' := rate_ok hv
          have p := ab_mul_in hx hu'
          have hav : 0 < ab v := by unfold ab; split <;> omega
          have hb : (v != 0) = true := by simp [hz]
          have hb2 : (v == 0) = false := by simp [hz]
          simp only [hb, hb2, i6_ok hx, i6_ok hu', i6_ok hv', wB_ab (i6_ok hx), wB_ab (i6_ok hu'), wB_ab (i6_ok hv'), lo_wB, vw_hl, hi_wB (show 0 ≤ ab x * ab u ∧ ab x * ab u < _ from ⟨p.1, by omega⟩), decide_eq_true hav, Bool.and_self, cond_true, cond_false, Bool.not_true]
          rw [fitT_eq]
          rfl
theorem scale0_text (N n : Nat) (α : Type) (x u v : Int) (k : AOut → Option α) : evFn real tab ((twT fsE spB).env real tab N (n + 6)) N Tryz.f148 α [iN x, iN u, iN v, iN 0] k = scaleText x u v 0 k := by kernel_rfl
theorem scale1_text (N n : Nat) (α : Type) (x u v : Int) (k : AOut → Option α) : evFn real tab ((twT fsE spB).env real tab N (n + 6)) N Tryz.f148 α [iN x, iN u, iN v, iN 1] k = scaleText x u v 1 k := by kernel_rfl
theorem scale2_text (N n : Nat) (α : Type) (x u v : Int) (k : AOut → Option α) : evFn real tab ((twT fsE spB).env real tab N (n + 6)) N Tryz.f148 α [iN x, iN u, iN v, iN 2] k = scaleText x u v 2 k := by kernel_rfl
theorem scale3_text (N n : Nat) (α : Type) (x u v : Int) (k : AOut → Option α) : evFn real tab ((twT fsE spB).env real tab N (n + 6)) N Tryz.f148 α [iN x, iN u, iN v, iN 3] k = scaleText x u v 3 k := by kernel_rfl
theorem scaleS_ok : FspOk Tryz.prog 148 scaleS := tower_S fsE_ok spB_ok ⟨Tryz.func148, fun _ _ => by kernel_rfl⟩ (by intro α args k; unfold scaleS; split <;> simp only [cond_bind, Option.bind_some, Option.bind_none]) fun args out hs h => by
  unfold scaleS at h
  split at h
  · rename_i x u v how
    cases hw : wayB how
    · rw [hw] at h; cases h
    · rw [hw, cond_true] at h
      rcases way_cases hw with rfl | rfl | rfl | rfl
      · exact ⟨8, 6, (scale0_text 8 0 AOut x u v some).trans ((scale_fin ..).trans h)⟩
      · exact ⟨8, 6, (scale1_text 8 0 AOut x u v some).trans ((scale_fin ..).trans h)⟩
      · exact ⟨8, 6, (scale2_text 8 0 AOut x u v some).trans ((scale_fin ..).trans h)⟩
      · exact ⟨8, 6, (scale3_text 8 0 AOut x u v some).trans ((scale_fin ..).trans h)⟩
  · cases h
end Go.Proofs.YteaadpgpihggeaaGreat

namespace Go.Proofs.YteaadpgpihggeaaGreat
open Go.RowKit
noncomputable def fsF : FuncId → Option Fsp := fun g =>
  if g = 45 then some plusPS else
  if g = 141 then some minusPS else
  if g = 142 then some within1S else
  if g = 144 then some uniS else
  if g = 147 then some timesS else
  if g = 146 then some dotPS else
  if g = 148 then some scaleS else
  fsE g
theorem fsF_ok : FsOk fsF :=
  fs_cons plusPS_ok <|
  fs_cons minusPS_ok <|
  fs_cons within1S_ok <|
  fs_cons uniS_ok <|
  fs_cons timesS_ok <|
  fs_cons dotPS_ok <|
  fs_cons scaleS_ok <|
  fsE_ok
noncomputable def spC : FuncId → Option (Cv → Cv) := fun g =>
  if g = 73 then some (triedS 154) else
  spB g
theorem spC_ok : SpOk spC :=
  sp_cons (fun cv h caps => tried_at cotried_tried cv h caps) <|
  spB_ok
end Go.Proofs.YteaadpgpihggeaaGreat

namespace Go.Proofs.YteaadpgpihggeaaGreat
open Go.RowKit
def rgB (v m : Int) : Bool := decide (-m ≤ v) && decide (v ≤ m)
def movC (x y sx sy sp : Int) : Bool := rgB x 6553600000 && rgB y 6553600000 && rgB sx 65536000 && rgB sy 65536000 && rgB sp 1000
def movE (x y sx sy sp : Int) : Int := bif movC x y sx sy sp then 0 else 2
def bodB (t n x y sx sy sp : Int) : Bool := (decide (0 ≤ t) && decide (t ≤ 1)) && (decide (0 ≤ n) && decide (n ≤ 7)) && movC x y sx sy sp
abbrev mvN (x y sx sy sp : Int) : AVal := .agg [iN x, iN y, iN sx, iN sy, iN sp]
abbrev bdN (t n x y sx sy sp : Int) (o : Bool) : AVal := .agg [iN t, iN n, iN x, iN y, iN sx, iN sy, iN sp, bN o]
def gchkC : Fsp := fun _ args k => match args with
  | [.agg [.int .i64 x, .int .i64 y, .int .i64 sx, .int .i64 sy, .int .i64 sp]] => k (i1 (movE x y sx sy sp))
  | _ => none
theorem gchkC_text (N n : Nat) (α : Type) (x y sx sy sp : Int) (k : AOut → Option α) : evFn real tab ((twT fsF spC).env real tab N (n + 4)) N Tryz.f93 α [mvN x y sx sy sp] k =
 bif decide (IntKind.i64.wrap (0 - 6553600000) ≤ x) then bif decide (x ≤ 6553600000) then bif decide (IntKind.i64.wrap (0 - 6553600000) ≤ y) then bif !decide (y ≤ 6553600000) then k
 (i1 2) else bif decide (IntKind.i64.wrap (0 - 65536000) ≤ sx) then bif decide (sx ≤ 65536000) then bif decide (IntKind.i64.wrap (0 - 65536000) ≤ sy) then bif !decide (sy ≤ 65536000)
 then k (i1 2) else bif decide (-1000 ≤ sp) then bif !decide (sp ≤ 1000) then k (i1 2) else k (i1 0) else k (i1 2) else k (i1 2) else k (i1 2) else k (i1 2) else k (i1 2) else k (i1
 2) else k (i1 2) := by kernel_rfl
theorem gchkC_ok : FspOk Tryz.prog 93 gchkC := tower_S fsF_ok spC_ok ⟨Tryz.func93, fun _ _ => by kernel_rfl⟩ (by intro α args k; unfold gchkC; split <;> rfl) fun args out hs h => by
  unfold gchkC at h
  split at h
  · rename_i x y sx sy sp
    refine ⟨8, 4, (gchkC_text 8 0 AOut x y sx sy sp some).trans (Eq.trans ?_ h)⟩
    rw [i64w (0 - 6553600000) (by omega), i64w (0 - 65536000) (by omega)]
    unfold movE movC rgB
    simp only [show (0 : Int) - 6553600000 = -6553600000 from rfl, show (0 : Int) - 65536000 = -65536000 from rfl]
    cases decide (-6553600000 ≤ x) <;> cases decide (x ≤ 6553600000) <;> cases decide (-6553600000 ≤ y) <;> cases decide (y ≤ 6553600000) <;> cases decide (-65536000 ≤ sx) <;> cases decide (sx ≤ 65536000) <;> cases decide (-65536000 ≤ sy) <;> cases decide (sy ≤ 65536000) <;> cases decide (-1000 ≤ sp) <;> cases decide (sp ≤ 1000) <;> rfl
  · cases h
noncomputable def fsG : FuncId → Option Fsp := fun g =>
  if g = 93 then some gchkC else
  fsF g
theorem fsG_ok : FsOk fsG :=
  fs_cons gchkC_ok <|
  fsF_ok
def validS : Fsp := fun _ args k => match args with
  | [.agg [.int .i64 t, .int .i64 n, .int .i64 x, .int .i64 y, .int .i64 sx, .int .i64 sy, .int .i64 sp, .bool _]] => k (b1 (bodB t n x y sx sy sp))
  | _ => none
def tchB (x y u v : Int) (o p : Bool) : Bool := !o && (!p && (witV (miX u v x y) (miY u v x y) 19005440 && !(miX u v x y == 0 && miY u v x y == 0)))
def touchS : Fsp := fun _ args k => match args with
  | [.agg [.int .i64 _, .int .i64 _, .int .i64 x, .int .i64 y, .int .i64 _, .int .i64 _, .int .i64 _, .bool o], .agg [.int .i64 _, .int .i64 _, .int .i64 u, .int .i64 v, .int .i64 _, .int .i64 _, .int .i64 _, .bool p]] => k (b1 (tchB x y u v o p))
  | _ => none
def comis (e : Int) : AOut := .pan (.ifc 154 (.agg [.int .i64 e]))
def mustSS : Fsp := fun _ args k => match args with
  | [.agg [.int .i64 x, .int .i64 y], .int .i64 e] => bif e != 0 then k (comis e) else k (.ret (sN x y))
  | _ => none
def mustFS : Fsp := fun _ args k => match args with
  | [.int .i64 x, .int .i64 e] => bif e != 0 then k (comis e) else k (i1 x)
  | _ => none
theorem valid_text (N n : Nat) (α : Type) (t m x y sx sy sp : Int) (o : Bool) (k : AOut → Option α) : evFn real tab ((twT fsG spC).env real tab N (n + 4)) N Tryz.f50 α [bdN t m x y sx sy sp o] k =
 bif decide (0 ≤ t) then bif decide (t ≤ 1) then bif decide (0 ≤ m) then bif decide (m ≤ 7) then k (b1 (movE x y sx sy sp == 0)) else k (b1 false) else k (b1 false) else k (b1 false)
 else k (b1 false) := by kernel_rfl
theorem validS_ok : FspOk Tryz.prog 50 validS := tower_S fsG_ok spC_ok ⟨Tryz.func50, fun _ _ => by kernel_rfl⟩ (by intro α args k; unfold validS; split <;> rfl) fun args out hs h => by
  unfold validS at h
  split at h
  · rename_i t n x y sx sy sp o
    refine ⟨8, 4, (valid_text 8 0 AOut t n x y sx sy sp o some).trans (Eq.trans ?_ h)⟩
    unfold bodB movE
    cases decide (0 ≤ t) <;> cases decide (t ≤ 1) <;> cases decide (0 ≤ n) <;> cases decide (n ≤ 7) <;> cases movC x y sx sy sp <;> rfl
  · cases h
theorem touch_text (N n : Nat) (α : Type) (a1 a2 x y a3 a4 a5 : Int) (o : Bool) (c1 c2 u v c3 c4 c5 : Int) (p : Bool) (k : AOut → Option α) : evFn real tab ((twT fsG spC).env real tab N (n + 4)) N Tryz.f86 α [bdN a1 a2 x y a3 a4 a5 o, bdN c1 c2 u v c3 c4 c5 p] k =
 bif !o then bif !p then bif witV (miX u v x y) (miY u v x y) 19005440 then k (b1 !(miX u v x y == 0 && (miY u v x y == 0 && true))) else k (b1 false) else k (b1 false) else k (b1
 false) := by kernel_rfl
theorem touchS_ok : FspOk Tryz.prog 86 touchS := tower_S fsG_ok spC_ok ⟨Tryz.func86, fun _ _ => by kernel_rfl⟩ (by intro α args k; unfold touchS; split <;> rfl) fun args out hs h => by
  unfold touchS at h
  split at h
  · rename_i a1 a2 x y a3 a4 a5 o c1 c2 u v c3 c4 c5 p
    refine ⟨8, 4, (touch_text 8 0 AOut a1 a2 x y a3 a4 a5 o c1 c2 u v c3 c4 c5 p some).trans (Eq.trans ?_ h)⟩
    unfold tchB
    rw [Bool.and_true]
    cases o <;> cases p <;> cases witV (miX u v x y) (miY u v x y) 19005440 <;> rfl
  · cases h
theorem mustS_text (N n : Nat) (α : Type) (x y e : Int) (k : AOut → Option α) : evFn real tab ((twT fsG spC).env real tab N (n + 4)) N Tryz.f143 α [sN x y, iN e] k = bif e != 0 then k (comis e) else k (.ret (sN x y)) := by kernel_rfl
theorem mustSS_ok : FspOk Tryz.prog 143 mustSS := tower_S fsG_ok spC_ok ⟨Tryz.func143, fun _ _ => by kernel_rfl⟩ (by intro α args k; unfold mustSS; split <;> simp only [cond_bind, Option.bind_some, Option.bind_none]) fun args out hs h => by
  unfold mustSS at h
  split at h
  · exact ⟨8, 4, (mustS_text 8 0 AOut _ _ _ some).trans h⟩
  · cases h
theorem mustF_text (N n : Nat) (α : Type) (x e : Int) (k : AOut → Option α) : evFn real tab ((twT fsG spC).env real tab N (n + 4)) N Tryz.f145 α [iN x, iN e] k = bif e != 0 then k (comis e) else k (i1 x) := by kernel_rfl
theorem mustFS_ok : FspOk Tryz.prog 145 mustFS := tower_S fsG_ok spC_ok ⟨Tryz.func145, fun _ _ => by kernel_rfl⟩ (by intro α args k; unfold mustFS; split <;> simp only [cond_bind, Option.bind_some, Option.bind_none]) fun args out hs h => by
  unfold mustFS at h
  split at h
  · exact ⟨8, 4, (mustF_text 8 0 AOut _ _ some).trans h⟩
  · cases h
noncomputable def fsH : FuncId → Option Fsp := fun g =>
  if g = 50 then some validS else
  if g = 86 then some touchS else
  if g = 143 then some mustSS else
  if g = 145 then some mustFS else
  fsG g
theorem fsH_ok : FsOk fsH :=
  fs_cons validS_ok <|
  fs_cons touchS_ok <|
  fs_cons mustSS_ok <|
  fs_cons mustFS_ok <|
  fsG_ok
end Go.Proofs.YteaadpgpihggeaaGreat

namespace Go.Proofs.YteaadpgpihggeaaGreat
open Go.RowKit
theorem walk_of {P : Program} {f : FuncId} {S : Fsp} (h : FspOk P f S) {args : List AVal} {v : AVal} (hS : S AOut args some = some (.ret v)) (hp : args.all AVal.p1 = true) (hv : v.p1 = true) (w : World) :
    Calls P f (args.map AVal.v1).toArray w fun e w' => e = .returned v.v1 ∧ Below w.heap.size w w' := by
  refine (h.calls args _ hS (fun _ => False) w _ (fun _ hb => hb.elim) (by simp) fun j c x hc hx => ?_).mono ?_
  · simp [hc] at hx
    subst hx
    exact rep_v1 (List.all_eq_true.1 hp c (List.mem_of_getElem? hc))
  · rintro e w' ⟨M', _, _, _, hb, x, rfl, hr⟩
    exact ⟨by rw [rep_p1 hr hv], hb⟩
theorem Hid.mk' {p : Prop} (h : p) : Hid p := h
namespace Ck
theorem lt_of_cell {w : World} {b o : Nat} {s : Option Nat} {v : Value} (h : w.cell? ⟨b, o, s⟩ = some v) : b < w.heap.size := by
  rcases Nat.lt_or_ge b w.heap.size with hb | hb
  · exact hb
  · simp [World.cell?, Array.getElem?_eq_none hb] at h
structure Bod where
  team : Int
  n : Int
  ax : Int
  ay : Int
  sx : Int
  sy : Int
  spin : Int
  out : Bool
def Bod.cells (b : Bod) : Array Value := #[.int .i64 b.team, .int .i64 b.n, .int .i64 b.ax, .int .i64 b.ay, .int .i64 b.sx, .int .i64 b.sy, .int .i64 b.spin, .bool b.out]
def Bod.ok (b : Bod) : Bool := bodB b.team b.n b.ax b.ay b.sx b.sy b.spin
def Bod.rests (b : Bod) : Bool := b.sx == 0 && b.sy == 0
def errB (b : Bool) : Int := bif b then 0 else 2
theorem bvalid_c (b : Bod) (w : World) :
    Calls Tryz.prog 50 #[.agg b.cells] w fun e w' => e = .returned (.bool b.ok) ∧ Below w.heap.size w w' :=
  walk_of validS_ok (args := [bdN b.team b.n b.ax b.ay b.sx b.sy b.spin b.out]) rfl rfl rfl w
theorem two_new {w w1 : World} {c1 c2 : Array Value} {t1 t2 : TypeId} (hb : Below ((w.alloc (.cells c1 t1)).alloc (.cells c2 t2)).heap.size ((w.alloc (.cells c1 t1)).alloc (.cells c2 t2)) w1) :
    (∀ i, w1.cell? ⟨w.heap.size, i, none⟩ = c1[i]?) ∧ (∀ i, w1.cell? ⟨w.heap.size + 1, i, none⟩ = c2[i]?) ∧ (∀ i, w1.frozen? ⟨w.heap.size, i, none⟩ = false) ∧ (∀ i, w1.frozen? ⟨w.heap.size + 1, i, none⟩ = false) ∧ w.heap.size + 1 < w1.heap.size := by
  refine ⟨fun i => ?_, fun i => ?_, fun i => ?_, fun i => ?_, ?_⟩
  · rw [hb.cell (p := ⟨w.heap.size, i, none⟩) (by simp; omega)]; simp [go_sem]
  · rw [hb.cell (p := ⟨w.heap.size + 1, i, none⟩) (by simp)]; simp [go_sem]
  · rw [hb.frozen (p := ⟨w.heap.size, i, none⟩) (by simp; omega)]; simp [go_sem]
  · rw [hb.frozen (p := ⟨w.heap.size + 1, i, none⟩) (by simp)]; simp [go_sem]
  · have := hb.size; simp at this; omega
theorem brests_c (b : Bod) (w : World) :
    Calls Tryz.prog 51 #[.agg b.cells] w fun e w' => e = .returned (.bool b.rests) ∧ Below w.heap.size w w' := by
  obtain ⟨team, n, ax, ay, sx, sy, spin, out⟩ := b
  unfold Bod.rests Bod.cells
  simp only
  go_enter Tryz.func51, Tryz.ntmps51
  go_wp2_with fail
  all_goals
    go_ret
    exact ⟨by simp [*], (Below.refl _ _).alloc (Nat.le_refl _) _⟩
abbrev keyV (a b : Int) : Value := .agg #[.int .i64 a, .int .i64 b]
theorem equalIn_int (d : Nat) (a c : Int) (w : World) : (Op.equalIn (d + 1) 3 (.int .i64 a) (.int .i64 c)).run Tryz.prog w = .ok (a == c) w := by
  simp [Op.equalIn, run_underlying Tryz.underlying3]
theorem part_0 (x y : Value) (w : World) : (part 3 #[x, y] 0).run Tryz.prog w = .ok x w := by kernel_rfl
theorem part_1 (x y : Value) (w : World) : (part 3 #[x, y] 1).run Tryz.prog w = .ok y w := by kernel_rfl
theorem size_int (w : World) : (sizeOf 3).run Tryz.prog w = .ok 1 w := by kernel_rfl
theorem equalIn_key (d : Nat) (a b c e : Int) (w : World) : (Op.equalIn (d + 2) 115 (keyV a b) (keyV c e)).run Tryz.prog w = .ok (a == c && b == e) w := by
  have h1 := fun a c => equalIn_int d a c w
  rw [Op.equalIn]
  generalize Op.equalIn (d + 1) = f at *
  simp only [Sem.run_bind, run_underlying Tryz.underlying115, Result.andThen_ok, size_int, Std.Legacy.Range.forIn_eq_forIn_range', List.range', List.forIn_cons, List.forIn_nil]
  have hr : List.range' 0 2 = [0, 1] := rfl
  simp [hr, part_0, part_1, h1, Sem.run_bind]
  by_cases h2 : a = c
  · by_cases h3 : b = e
    · simp [h2, h3, part_0, part_1, h1, Sem.run_bind]
    · simp [h2, h3, part_0, part_1, h1, Sem.run_bind]
  · simp [h2, part_0, part_1, h1, Sem.run_bind]
theorem equal_key (a b c e : Int) (w : World) : (Op.equal 115 (keyV a b) (keyV c e)).run Tryz.prog w = .ok (a == c && b == e) w := by
  simp only [Op.equal, Op.maxDepth]
  exact equalIn_key 9998 a b c e w
theorem check_key (e : Bool) (a b : Int) (w : World) : (Instr.checkKey e 10000 115 (keyV a b)).run Tryz.prog w = .ok () w := by
  cases e <;> kernel_rfl
def NamesMap (w : World) (B : Nat) (ks : List (Int × Int)) : Prop :=
  ∃ es clock, w.heap[B]? = some (.map es clock) ∧ es.toList.map (·.key) = ks.map (fun k => keyV k.1 k.2) ∧ ∀ e ∈ es.toList, e.val = .bool true
theorem findAsking_names (a b : Int) (w : World) : ∀ (es : List MapEntry) (ks : List (Int × Int)) (i : Nat), es.map (·.key) = ks.map (fun k => keyV k.1 k.2) → (∀ e ∈ es, e.val = .bool true) →
    ((a, b) ∉ ks → (Instr.findAsking 115 (keyV a b) es i).run Tryz.prog w = .ok none w) ∧
    ((a, b) ∈ ks → ∃ j, (Instr.findAsking 115 (keyV a b) es i).run Tryz.prog w = .ok (some (j, .bool true)) w)
  | [], [], i, _, _ => by simp [Instr.findAsking]
  | [], _ :: _, _, h, _ => by simp at h
  | _ :: _, [], _, h, _ => by simp at h
  | e :: es, (c, d) :: ks, i, h, hv => by
    simp only [List.map_cons, List.cons.injEq] at h
    obtain ⟨hk, hr⟩ := h
    obtain ⟨h1, h2⟩ := findAsking_names a b w es ks (i + 1) hr (fun x hx => hv x (List.mem_cons_of_mem _ hx))
    have hval := hv e (List.mem_cons_self ..)
    have heq := equal_key a b c d w
    rw [← hk] at heq
    constructor
    · intro hn
      simp only [List.mem_cons, not_or] at hn
      have hne : (a == c && b == d) = false := by
        have := hn.1
        simp only [Prod.mk.injEq, not_and] at this
        by_cases hac : a = c
        · simp [hac, this hac]
        · simp [hac]
      rw [hne] at heq
      simp [Instr.findAsking, Sem.run_bind, heq, h1 hn.2]
    · intro hm
      by_cases hc : a = c ∧ b = d
      · obtain ⟨rfl, rfl⟩ := hc
        have : (a == a && b == b) = true := by simp
        rw [this] at heq
        exact ⟨i, by simp [Instr.findAsking, Sem.run_bind, heq, hval]⟩
      · have hne : (a == c && b == d) = false := by
          by_cases hac : a = c
          · have : ¬ b = d := fun h => hc ⟨hac, h⟩
            simp [this]
          · simp [hac]
        rw [hne] at heq
        have hm' : (a, b) ∈ ks := by
          rcases List.mem_cons.1 hm with h | h
          · simp only [Prod.mk.injEq] at h; exact absurd h hc
          · exact h
        obtain ⟨j, hj⟩ := h2 hm'
        exact ⟨j, by simp [Instr.findAsking, Sem.run_bind, heq, hj]⟩
theorem findKey_names (a b : Int) (w : World) (es : List MapEntry) (ks : List (Int × Int)) (h : es.map (·.key) = ks.map (fun k => keyV k.1 k.2)) (hv : ∀ e ∈ es, e.val = .bool true) :
    ((a, b) ∉ ks → (Instr.findKey 115 (keyV a b) es).run Tryz.prog w = .ok none w) ∧
    ((a, b) ∈ ks → ∃ j, (Instr.findKey 115 (keyV a b) es).run Tryz.prog w = .ok (some (j, .bool true)) w) := by
  obtain ⟨h1, h2⟩ := findAsking_names a b w es ks 0 h hv
  unfold Instr.findKey
  simp only [Sem.run_bind, run_underlying Tryz.underlying115, Result.andThen_ok]
  cases es with
  | nil =>
    cases ks with
    | nil => simp [Instr.findNow]
    | cons _ _ => simp at h
  | cons e es =>
    have hn : ∀ d, Instr.findNow (.array 2 d) (keyV a b) (e :: es) 0 = none := by
      intro d
      simp [Instr.findNow, Instr.sameNow]
    simp only [hn]
    exact ⟨h1, h2⟩
theorem zero_bool (w : World) : (zeroValue 4).run Tryz.prog w = .ok (.bool false) w := by kernel_rfl
theorem names_lookup {w : World} {B : Nat} {ks : List (Int × Int)} (h : NamesMap w B ks) (a b : Int) :
    (Instr.lookup 112 (.map (some B)) (keyV a b) false).run Tryz.prog w = .ok (.bool (decide ((a, b) ∈ ks))) w := by
  obtain ⟨es, clock, hb, hk, hv⟩ := h
  obtain ⟨h1, h2⟩ := findKey_names a b w es.toList ks hk hv
  unfold Instr.lookup
  simp only [Sem.run_bind, run_underlying Tryz.underlying112, Result.andThen_ok, MapKept.run_getObj_map hb, Sem.run_pure, check_key]
  by_cases hm : (a, b) ∈ ks
  · obtain ⟨j, hj⟩ := h2 hm
    simp [hj, hm]
  · simp [h1 hm, hm, zero_bool]
theorem names_update {w : World} {B : Nat} {ks : List (Int × Int)} (h : NamesMap w B ks) (a b : Int) (hn : (a, b) ∉ ks) :
    ∃ w', (Instr.mapUpdate 112 (.map (some B)) (keyV a b) (.bool true)).run Tryz.prog w = .ok () w' ∧ NamesMap w' B (ks ++ [(a, b)]) ∧ w.grownBy w' (some B) := by
  obtain ⟨es, clock, hb, hk, hv⟩ := h
  obtain ⟨h1, -⟩ := findKey_names a b w es.toList ks hk hv
  refine ⟨ChangeMaps.setBlock w B (.map (es.push { key := keyV a b, val := .bool true, born := clock }) (clock + 1)), ?_, ⟨_, _, ChangeMaps.heap_setBlock_same hb _, ?_, ?_⟩, ⟨rfl, rfl, rfl, by simp [ChangeMaps.setBlock], fun i _ hi => ChangeMaps.heap_setBlock_other hb _ (fun e => hi (by rw [e]))⟩⟩
  · unfold Instr.mapUpdate
    simp [Sem.run_bind, run_underlying Tryz.underlying112, MapKept.run_getObj_map hb, check_key, h1 hn, MapKept.run_setObj_map _ hb, Result.andThen, ChangeMaps.setBlock]
  · simp [hk]
  · intro e he
    simp only [Array.toList_push, List.mem_append, List.mem_singleton] at he
    rcases he with he | rfl
    · exact hv e he
    · rfl
theorem wpList_names {P : Program} (hP : P = Tryz.prog) (w : World) {ops : Array Oper} {rest : List Oper} {o : Oper} {a : Act} {Q : Exit → Act → World → Prop}
    (hg : o.guard = none) (m x v : Operand) (hop : o.op = Op.mapUpdate 112 m x v) (B : Nat) (ks : List (Int × Int)) (c d : Int)
    (hm : a.eval m = .map (some B)) (hx : a.eval x = keyV c d) (hv : a.eval v = .bool true) (hown : NamesMap w B ks) (hn : (c, d) ∉ ks)
    (hK : ∀ w', NamesMap w' B (ks ++ [(c, d)]) → w.grownBy w' (some B) → wpList P ops Q rest (a.put o.dst undef) w') :
    wpList P ops Q (o :: rest) a w := by
  subst hP
  refine wpList_plain hg fun K' hK' => ?_
  obtain ⟨w', hrun, r1, r2⟩ := names_update hown c d hn
  unfold Oper.wp
  simp [execOp, hop, hm, hx, hv, hrun, Result.andThen]
  exact hK' _ _ (hK w' r1 r2)
theorem NamesMap.kept {w w' : World} {B : Nat} {ks : List (Int × Int)} (h : NamesMap w B ks) (hb : w'.heap[B]? = w.heap[B]?) : NamesMap w' B ks := by
  obtain ⟨es, clock, h1, h2⟩ := h
  exact ⟨es, clock, hb.trans h1, h2⟩
theorem NamesMap.lt {w : World} {B : Nat} {ks : List (Int × Int)} (h : NamesMap w B ks) : B < w.heap.size := by
  obtain ⟨es, clock, h1, _⟩ := h
  exact (Array.getElem?_eq_some_iff.1 h1).1
theorem NamesMap.below {w w' : World} {B C : Nat} {ks : List (Int × Int)} (h : NamesMap w B ks) (hb : Below C w w') (hc : B < C) : NamesMap w' B ks := h.kept (hb.block B hc)
theorem names_made (w : World) : NamesMap (w.alloc (.map #[] 0)) w.heap.size [] :=
  ⟨#[], 0, by show (w.heap.push _)[w.heap.size]? = _; simp, rfl, by simp⟩
def Bods (w : World) (v : Value) (bs : List Bod) : Prop :=
  (∃ p cap, v = .slice p 0 cap ∧ bs = []) ∨
  (∃ b off cap, v = .slice (some ⟨b, off, none⟩) bs.length cap ∧ 0 < bs.length ∧ bs.length ≤ 9223372036854775807 ∧ ∀ (i : Nat) (x : Bod), bs[i]? = some x → ∀ j, j < 8 → w.cell? ⟨b, off + i * 8 + j, none⟩ = x.cells[j]?)
theorem Bods.below {w w' : World} {v : Value} {bs : List Bod} {B : Nat} (h : Bods w v bs) (hb : Below B w w') (hB : w.heap.size ≤ B) : Bods w' v bs := by
  rcases h with h | ⟨b, off, cap, rfl, h0, h1, h2⟩
  · exact .inl h
  · refine .inr ⟨b, off, cap, rfl, h0, h1, fun i x hx j hj => ?_⟩
    have hc := h2 i x hx j hj
    have hlt : b < w.heap.size := by
      have : ∃ y, x.cells[j]? = some y := ⟨x.cells[j]'(by simpa [Bod.cells] using hj), by simp⟩
      obtain ⟨y, hy⟩ := this
      exact lt_of_cell (hc.trans hy)
    rw [hb.cell (p := ⟨b, off + i * 8 + j, none⟩) (by show b < B; omega)]
    exact hc
def Bod.name (b : Bod) : Int × Int := (b.team, b.n)
def Bod.bad (before : List Bod) (b : Bod) : Bool := !b.ok || (decide (b.name ∈ before.map Bod.name) || (b.out && (!b.rests || b.spin != 0)))
def bodsOk (before : List Bod) : List Bod → Bool
  | [] => true
  | b :: r => !b.bad before && bodsOk (before ++ [b]) r
def sceneB (bs : List Bod) : Bool := decide (bs.length ≤ 16) && bodsOk [] bs
theorem bad_1 {l : List Bod} {x : Bod} (h : x.ok = false) : x.bad l = true := by simp [Bod.bad, h]
theorem bad_2 {l : List Bod} {x : Bod} (h : decide (x.name ∈ l.map Bod.name) = true) : x.bad l = true := by unfold Bod.bad; rw [h]; simp
theorem bad_3 {l : List Bod} {x : Bod} (h1 : x.out = true) (h : x.rests = false) : x.bad l = true := by simp [Bod.bad, h1, h]
theorem bad_4 {l : List Bod} {x : Bod} (h1 : x.out = true) (h : (x.spin != 0) = true) : x.bad l = true := by unfold Bod.bad; rw [h1, h]; simp
theorem good_1 {l : List Bod} {x : Bod} (h1 : x.ok = true) (h2 : decide (x.name ∈ l.map Bod.name) = false) (h3 : x.out = false) : x.bad l = false := by unfold Bod.bad; rw [h1, h2, h3]; rfl
theorem good_2 {l : List Bod} {x : Bod} (h1 : x.ok = true) (h2 : decide (x.name ∈ l.map Bod.name) = false) (h3 : x.rests = true) (h4 : x.spin = 0) : x.bad l = false := by unfold Bod.bad; rw [h1, h2, h3, h4]; simp
set_option maxHeartbeats 2000000 in
theorem ccheck_c (bs : List Bod) (v : Value) (w : World) (hv : Bods w v bs) :
    Calls Tryz.prog 20 #[v] w fun e w' => e = .returned (.int .i64 (errB (sceneB bs))) ∧ Below w.heap.size w w' := by
  have hmm := @run_makeMap Tryz.prog
  by_cases hl : bs.length ≤ 16
  case neg =>
    have hS : sceneB bs = false := by simp [sceneB, hl]
    rw [hS]
    rcases hv with ⟨_, _, _, rfl⟩ | ⟨b, off, cap, rfl, h0, h1, h2⟩
    · simp at hl
    · have hd : decide ((16 : Int) < (bs.length : Int)) = true := by simp only [decide_eq_true_eq]; omega
      clear h2 hS
      go_enter Tryz.func20, Tryz.ntmps20
      go_wp2_with fail
      go_ret
      exact ⟨rfl, Below.refl _ _⟩
  have hS : sceneB bs = bodsOk [] bs := by simp [sceneB, hl]
  have HS := Hid.mk' hS
  clear hS
  have hd : decide ((16 : Int) < (bs.length : Int)) = false := by simp only [decide_eq_false_iff_not]; omega
  rcases hv with ⟨q, cap, rfl, rfl⟩ | ⟨b, off, cap, rfl, h0, h1, h2⟩
  · go_enter Tryz.func20, Tryz.ntmps20
    go_wp2_with fail
    go_loop [5, 6, 13] (fun _ _ i => i = .int .i64 0) (fun _ _ _ => 0)
    case atStart => rfl
    case round =>
      subst hrel
      go_wp2_with fail
      go_ret
      exact ⟨by rw [HS.out]; rfl, (Below.refl _ _).alloc (Nat.le_refl _) _⟩
  have hblt : b < w.heap.size := by
    obtain ⟨x, hx⟩ : ∃ x, bs[0]? = some x := ⟨_, List.getElem?_eq_getElem h0⟩
    exact lt_of_cell (h2 0 x hx 0 (by omega))
  have H2 := Hid.mk' h2
  clear h2
  generalize hn : bs.length = n at *
  have HN := Hid.mk' hn
  clear hn
  go_enter Tryz.func20, Tryz.ntmps20
  go_wp2_with fail
  go_loopw [5, 6, 13] (fun _ _ i wr => ∃ k : Nat, k ≤ n ∧ i = .int .i64 k ∧ NamesMap wr w.heap.size ((bs.take k).map Bod.name) ∧ Below w.heap.size w wr ∧ Hid (bodsOk [] bs = bodsOk (bs.take k) (bs.drop k))) (fun _ _ i _ => n - (intOf i).toNat)
  case atStart => exact ⟨0, Nat.zero_le _, rfl, names_made w, (Below.refl _ _).alloc (Nat.le_refl _) _, rfl⟩
  case round =>
    obtain ⟨k, hk, rfl, hmap, hbel, hok⟩ := hrel
    by_cases hlt : k < n
    case neg =>
      have hkn : k = n := by omega
      have hfin : bodsOk [] bs = true := by rw [hok.out, hkn, ← HN.out, List.drop_length]; rfl
      have HF := Hid.mk' hfin
      clear hfin hkn hok
      go_wp2_with fail
      go_ret
      exact ⟨by rw [HS.out, HF.out]; rfl, hbel⟩
    obtain ⟨x, hx⟩ : ∃ x, bs[k]? = some x := ⟨_, List.getElem?_eq_getElem (by rw [HN.out]; exact hlt)⟩
    have hdrop : bs.drop k = x :: bs.drop (k + 1) := by
      rw [List.drop_eq_getElem_cons (by rw [HN.out]; exact hlt)]
      rw [List.getElem?_eq_getElem (by rw [HN.out]; exact hlt), Option.some.injEq] at hx
      rw [hx]
    have htake : bs.take (k + 1) = bs.take k ++ [x] := by
      rw [List.take_add_one, hx]; rfl
    have hstep : bodsOk [] bs = (!x.bad (bs.take k) && bodsOk (bs.take (k + 1)) (bs.drop (k + 1))) := by
      rw [hok.out, hdrop, htake]; rfl
    have HST := Hid.mk' hstep
    have HTK := Hid.mk' htake
    have hc := fun j (hj : j < 8) => (hbel.cell (p := ⟨b, off + k * 8 + j, none⟩) hblt).trans (H2.out k x hx j hj)
    clear hstep htake hdrop hok hx
    obtain ⟨team, num, ax, ay, sx, sy, spin, out⟩ := x
    have c0 := hc 0 (by omega)
    have c1 := hc 1 (by omega)
    have c2 := hc 2 (by omega)
    have c3 := hc 3 (by omega)
    have c4 := hc 4 (by omega)
    have c5 := hc 5 (by omega)
    have c6 := hc 6 (by omega)
    have c7 := hc 7 (by omega)
    simp only [Bod.cells, List.getElem?_toArray, List.getElem?_cons_zero, List.getElem?_cons_succ, Nat.add_zero] at c0 c1 c2 c3 c4 c5 c6 c7
    clear hc
    cases e1 : Bod.ok ⟨team, num, ax, ay, sx, sy, spin, out⟩
    case false =>
      have HOK := Hid.mk' e1
      have HMEM : Hid (decide ((team, num) ∈ (bs.take k).map Bod.name) = decide ((team, num) ∈ (bs.take k).map Bod.name)) := rfl
      have HBF : Hid (bodsOk [] bs = false) := by show _ = _; rw [HST.out, bad_1 HOK.out]; rfl
      clear e1
      go_wp2_with (go_at_call 50; refine (bvalid_c ⟨team, num, ax, ay, sx, sy, spin, out⟩ _).mono ?_; rintro e w1 ⟨rfl, hb1⟩; rw [HOK.out]; obtain ⟨hc1, hc2, hf1, hf2, hz⟩ := two_new hb1; have d0 := hc2 0; have d1 := hc2 1; have d2 := hc2 2; have d3 := hc2 3; have d4 := hc2 4; have d5 := hc2 5; have d6 := hc2 6; have d7 := hc2 7; have hbw : Below wr.heap.size wr w1 := (((Below.refl _ _).alloc (Nat.le_refl _) _).alloc (by simp) _).trans (hb1.mono (by simp <;> omega)); have hm1 := hmap.below hbw hmap.lt; have hlk := names_lookup hm1 team num; rw [HMEM.out] at hlk; clear hc1 hc2 hf1 hf2)
      go_ret
      exact ⟨by rw [HS.out, HBF.out]; rfl, hbel.trans (hbw.mono hbel.size)⟩
    have HOK := Hid.mk' e1
    clear e1
    cases e2 : decide ((team, num) ∈ (bs.take k).map Bod.name)
    case true =>
      have HMEM := Hid.mk' e2
      have HBF : Hid (bodsOk [] bs = false) := by show _ = _; rw [HST.out, bad_2 HMEM.out]; rfl
      clear e2
      go_wp2_with (go_at_call 50; refine (bvalid_c ⟨team, num, ax, ay, sx, sy, spin, out⟩ _).mono ?_; rintro e w1 ⟨rfl, hb1⟩; rw [HOK.out]; obtain ⟨hc1, hc2, hf1, hf2, hz⟩ := two_new hb1; have d0 := hc2 0; have d1 := hc2 1; have d2 := hc2 2; have d3 := hc2 3; have d4 := hc2 4; have d5 := hc2 5; have d6 := hc2 6; have d7 := hc2 7; have hbw : Below wr.heap.size wr w1 := (((Below.refl _ _).alloc (Nat.le_refl _) _).alloc (by simp) _).trans (hb1.mono (by simp <;> omega)); have hm1 := hmap.below hbw hmap.lt; have hlk := names_lookup hm1 team num; rw [HMEM.out] at hlk; clear hc1 hc2 hf1 hf2)
      go_ret
      exact ⟨by rw [HS.out, HBF.out]; rfl, hbel.trans (hbw.mono hbel.size)⟩
    have HMEM := Hid.mk' e2
    clear e2
    cases out
    case false =>
      have HBG : Hid (bodsOk [] bs = bodsOk (bs.take (k + 1)) (bs.drop (k + 1))) := by show _ = _; rw [HST.out, good_1 HOK.out HMEM.out rfl]; rfl
      have HNM : Hid ((team, num) ∉ (bs.take k).map Bod.name) := of_decide_eq_false HMEM.out
      have HKS : Hid ((bs.take (k + 1)).map Bod.name = (bs.take k).map Bod.name ++ [(team, num)]) := by
        show _ = _
        rw [HTK.out, List.map_append]; rfl
      go_wp2_with (first
        | (go_at_call 50; refine (bvalid_c ⟨team, num, ax, ay, sx, sy, spin, false⟩ _).mono ?_; rintro e w1 ⟨rfl, hb1⟩; rw [HOK.out]; obtain ⟨hc1, hc2, hf1, hf2, hz⟩ := two_new hb1; have d0 := hc2 0; have d1 := hc2 1; have d2 := hc2 2; have d3 := hc2 3; have d4 := hc2 4; have d5 := hc2 5; have d6 := hc2 6; have d7 := hc2 7; have hbw : Below wr.heap.size wr w1 := (((Below.refl _ _).alloc (Nat.le_refl _) _).alloc (by simp) _).trans (hb1.mono (by simp <;> omega)); have hm1 := hmap.below hbw hmap.lt; have hlk := names_lookup hm1 team num; rw [HMEM.out] at hlk; clear hc1 hc2 hf1 hf2)
        | (at_mapUpdate; refine wpList_names rfl _ rfl _ _ _ rfl w.heap.size ((bs.take k).map Bod.name) team num rfl rfl rfl hm1 HNM.out ?_; intro w3 hm3 hg3))
      go_roundw
      case rel => exact ⟨k + 1, by omega, by go_num, by rw [HKS.out]; exact hm3, (hbel.trans (hbw.mono hbel.size)).grown hg3 (by have := hbw.size; have := hbel.size; omega) (fun q hq => by cases hq; exact Nat.le_refl _), HBG.out⟩
      case measure => simp [intOf]; omega
    cases e3 : Bod.rests ⟨team, num, ax, ay, sx, sy, spin, true⟩
    case false =>
      have HR := Hid.mk' e3
      have HBF : Hid (bodsOk [] bs = false) := by show _ = _; rw [HST.out, bad_3 rfl HR.out]; rfl
      clear e3
      go_wp2_with (first
        | (go_at_call 50; refine (bvalid_c ⟨team, num, ax, ay, sx, sy, spin, true⟩ _).mono ?_; rintro e w1 ⟨rfl, hb1⟩; rw [HOK.out]; obtain ⟨hc1, hc2, hf1, hf2, hz⟩ := two_new hb1; have d0 := hc2 0; have d1 := hc2 1; have d2 := hc2 2; have d3 := hc2 3; have d4 := hc2 4; have d5 := hc2 5; have d6 := hc2 6; have d7 := hc2 7; have hbw : Below wr.heap.size wr w1 := (((Below.refl _ _).alloc (Nat.le_refl _) _).alloc (by simp) _).trans (hb1.mono (by simp <;> omega)); have hm1 := hmap.below hbw hmap.lt; have hlk := names_lookup hm1 team num; rw [HMEM.out] at hlk; clear hc1 hc2 hf1 hf2)
        | (go_at_call 51; refine (brests_c ⟨team, num, ax, ay, sx, sy, spin, true⟩ _).mono ?_; rintro e w2 ⟨rfl, hb2⟩; rw [HR.out]; have f0 := (hb2.cell (p := ⟨wr.heap.size + 1, 0, none⟩) hz).trans d0; have f1 := (hb2.cell (p := ⟨wr.heap.size + 1, 1, none⟩) hz).trans d1; have f6 := (hb2.cell (p := ⟨wr.heap.size + 1, 6, none⟩) hz).trans d6; have hm2 := hm1.below hb2 hm1.lt; clear d0 d1 d2 d3 d4 d5 d6 d7 hlk))
      go_ret
      exact ⟨by rw [HS.out, HBF.out]; rfl, (hbel.trans (hbw.mono hbel.size)).trans (hb2.mono (by have := hbw.size; have := hbel.size; omega))⟩
    have HR := Hid.mk' e3
    clear e3
    by_cases hs : spin = 0
    case neg =>
      have hsb : (spin != 0) = true := by simpa using hs
      have HSB := Hid.mk' hsb
      have HBF : Hid (bodsOk [] bs = false) := by show _ = _; rw [HST.out, bad_4 rfl HSB.out]; rfl
      clear hs
      go_wp2_with (first
        | (go_at_call 50; refine (bvalid_c ⟨team, num, ax, ay, sx, sy, spin, true⟩ _).mono ?_; rintro e w1 ⟨rfl, hb1⟩; rw [HOK.out]; obtain ⟨hc1, hc2, hf1, hf2, hz⟩ := two_new hb1; have d0 := hc2 0; have d1 := hc2 1; have d2 := hc2 2; have d3 := hc2 3; have d4 := hc2 4; have d5 := hc2 5; have d6 := hc2 6; have d7 := hc2 7; have hbw : Below wr.heap.size wr w1 := (((Below.refl _ _).alloc (Nat.le_refl _) _).alloc (by simp) _).trans (hb1.mono (by simp <;> omega)); have hm1 := hmap.below hbw hmap.lt; have hlk := names_lookup hm1 team num; rw [HMEM.out] at hlk; clear hc1 hc2 hf1 hf2)
        | (go_at_call 51; refine (brests_c ⟨team, num, ax, ay, sx, sy, spin, true⟩ _).mono ?_; rintro e w2 ⟨rfl, hb2⟩; rw [HR.out]; have f0 := (hb2.cell (p := ⟨wr.heap.size + 1, 0, none⟩) hz).trans d0; have f1 := (hb2.cell (p := ⟨wr.heap.size + 1, 1, none⟩) hz).trans d1; have f6 := (hb2.cell (p := ⟨wr.heap.size + 1, 6, none⟩) hz).trans d6; have hm2 := hm1.below hb2 hm1.lt; clear d0 d1 d2 d3 d4 d5 d6 d7 hlk))
      go_ret
      exact ⟨by rw [HS.out, HBF.out]; rfl, (hbel.trans (hbw.mono hbel.size)).trans (hb2.mono (by have := hbw.size; have := hbel.size; omega))⟩
    subst hs
    have HBG : Hid (bodsOk [] bs = bodsOk (bs.take (k + 1)) (bs.drop (k + 1))) := by show _ = _; rw [HST.out, good_2 HOK.out HMEM.out HR.out rfl]; rfl
    have HNM : Hid ((team, num) ∉ (bs.take k).map Bod.name) := of_decide_eq_false HMEM.out
    have HKS : Hid ((bs.take (k + 1)).map Bod.name = (bs.take k).map Bod.name ++ [(team, num)]) := by
      show _ = _
      rw [HTK.out, List.map_append]; rfl
    go_wp2_with (first
      | (go_at_call 50; refine (bvalid_c ⟨team, num, ax, ay, sx, sy, 0, true⟩ _).mono ?_; rintro e w1 ⟨rfl, hb1⟩; rw [HOK.out]; obtain ⟨hc1, hc2, hf1, hf2, hz⟩ := two_new hb1; have d0 := hc2 0; have d1 := hc2 1; have d2 := hc2 2; have d3 := hc2 3; have d4 := hc2 4; have d5 := hc2 5; have d6 := hc2 6; have d7 := hc2 7; have hbw : Below wr.heap.size wr w1 := (((Below.refl _ _).alloc (Nat.le_refl _) _).alloc (by simp) _).trans (hb1.mono (by simp <;> omega)); have hm1 := hmap.below hbw hmap.lt; have hlk := names_lookup hm1 team num; rw [HMEM.out] at hlk; clear hc1 hc2 hf1 hf2)
      | (go_at_call 51; refine (brests_c ⟨team, num, ax, ay, sx, sy, 0, true⟩ _).mono ?_; rintro e w2 ⟨rfl, hb2⟩; rw [HR.out]; have f0 := (hb2.cell (p := ⟨wr.heap.size + 1, 0, none⟩) hz).trans d0; have f1 := (hb2.cell (p := ⟨wr.heap.size + 1, 1, none⟩) hz).trans d1; have f6 := (hb2.cell (p := ⟨wr.heap.size + 1, 6, none⟩) hz).trans d6; have hm2 := hm1.below hb2 hm1.lt; clear d0 d1 d2 d3 d4 d5 d6 d7 hlk)
      | (at_mapUpdate; refine wpList_names rfl _ rfl _ _ _ rfl w.heap.size ((bs.take k).map Bod.name) team num rfl rfl rfl hm2 HNM.out ?_; intro w3 hm3 hg3))
    go_roundw
    case rel => exact ⟨k + 1, by omega, by go_num, by rw [HKS.out]; exact hm3, ((hbel.trans (hbw.mono hbel.size)).trans (hb2.mono (by have := hbw.size; have := hbel.size; omega))).grown hg3 (by have := hb2.size; have := hbw.size; have := hbel.size; omega) (fun q hq => by cases hq; exact Nat.le_refl _), HBG.out⟩
    case measure => simp [intOf]; omega
end Ck
end Go.Proofs.YteaadpgpihggeaaGreat

namespace Go.Proofs.YteaadpgpihggeaaGreat
open Go.RowKit
def spSh : Sh := .recd (.cons (.int .i64) (.cons (.int .i64) .nil))
def mvSh : Sh := .recd (.cons spSh (.cons spSh (.cons (.int .i64) .nil)))
def bdSh : Sh := .recd (.cons (.int .i64) (.cons (.int .i64) (.cons mvSh (.cons .bool .nil))))
def bodOf (x : bdSh.ty) : Ck.Bod := ⟨x.1, x.2.1, x.2.2.1.1.1, x.2.2.1.1.2.1, x.2.2.1.2.1.1, x.2.2.1.2.1.2.1, x.2.2.1.2.2.1, x.2.2.2.1⟩
def scnB (l : List bdSh.ty) : Bool := Ck.sceneB (l.map bodOf)
theorem rep_nilv {h : List ABlk} {g : Gh} {w : World} {v : Value} (r : Rep h g w .nils v) : v = .slice none 0 0 := by cases r; rfl
theorem bods_rep {M : Nat → Prop} {w : World} {xs : List bdSh.ty} {v : Value} (r : Rep [] ⟨fun _ => Go.undef, M⟩ w (.ro bdSh xs) v) : Ck.Bods w v (xs.map bodOf) := by
  cases r with
  | ro0 e p c hc hp => exact .inl ⟨p, c, rfl, rfl⟩
  | ro1 e xs b o c us h0 h1 h2 hm hc hr =>
    have hcell : ∀ n x, xs[n]? = some x → ∀ j, j < 8 → w.cell? ⟨b, o + n * 8 + j, none⟩ = (bodOf x).cells[j]? := fun n x hx j hj => by
      match j, hj with
      | 0, _ => have f := hr n x 0 (.int .i64 x.1) hx rfl; exact (hc n x 0 (.int .i64 x.1) hx rfl).trans (congrArg some (rep_p0 f rfl))
      | 1, _ => have f := hr n x 1 (.int .i64 x.2.1) hx rfl; exact (hc n x 1 (.int .i64 x.2.1) hx rfl).trans (congrArg some (rep_p0 f rfl))
      | 2, _ => have f := hr n x 2 (.int .i64 x.2.2.1.1.1) hx rfl; exact (hc n x 2 (.int .i64 x.2.2.1.1.1) hx rfl).trans (congrArg some (rep_p0 f rfl))
      | 3, _ => have f := hr n x 3 (.int .i64 x.2.2.1.1.2.1) hx rfl; exact (hc n x 3 (.int .i64 x.2.2.1.1.2.1) hx rfl).trans (congrArg some (rep_p0 f rfl))
      | 4, _ => have f := hr n x 4 (.int .i64 x.2.2.1.2.1.1) hx rfl; exact (hc n x 4 (.int .i64 x.2.2.1.2.1.1) hx rfl).trans (congrArg some (rep_p0 f rfl))
      | 5, _ => have f := hr n x 5 (.int .i64 x.2.2.1.2.1.2.1) hx rfl; exact (hc n x 5 (.int .i64 x.2.2.1.2.1.2.1) hx rfl).trans (congrArg some (rep_p0 f rfl))
      | 6, _ => have f := hr n x 6 (.int .i64 x.2.2.1.2.2.1) hx rfl; exact (hc n x 6 (.int .i64 x.2.2.1.2.2.1) hx rfl).trans (congrArg some (rep_p0 f rfl))
      | 7, _ => have f := hr n x 7 (.bool x.2.2.2.1) hx rfl; exact (hc n x 7 (.bool x.2.2.2.1) hx rfl).trans (congrArg some (rep_p0 f rfl))
    refine .inr ⟨b, o, c, by rw [List.length_map], by rw [List.length_map]; exact h0, by rw [List.length_map]; exact Nat.le_trans h1 h2, fun i x hx j hj => ?_⟩
    rw [List.getElem?_map] at hx
    cases hy : xs[i]? with
    | none => rw [hy] at hx; cases hx
    | some y => rw [hy] at hx; cases hx; exact hcell i y hy j hj
def scnE (l : List bdSh.ty) : Int := Ck.errB (scnB l)
def ccheckF : List AVal → Option AOut
  | [.ro (.recd (.cons (.int .i64) (.cons (.int .i64) (.cons (.recd (.cons (.recd (.cons (.int .i64) (.cons (.int .i64) .nil))) (.cons (.recd (.cons (.int .i64) (.cons (.int .i64) .nil))) (.cons (.int .i64) .nil)))) (.cons .bool .nil))))) xs] => some (i1 (scnE xs))
  | [.nils] => some (i1 0)
  | _ => none
theorem ccheck_fsp : FspOk Tryz.prog 20 (toFsp ccheckF) where
  enter := fun _ _ => by kernel_rfl
  nat := toFsp_nat ccheckF
  calls := fun args out hout M w cargs hM hl hr => by
    have h := toFsp_some hout
    unfold ccheckF at h
    have main : ∀ v bs e, cargs = #[v] → Ck.Bods w v bs → Ck.errB (Ck.sceneB bs) = e → Calls Tryz.prog 20 cargs w (CPost M w (i1 e)) := fun v bs e hc hb he => by
      subst hc
      refine (Ck.ccheck_c bs v w hb).mono ?_
      rintro e' w' ⟨rfl, hb'⟩
      refine ⟨M, fun _ h => h, fun _ h => .inl h, fun b h => Nat.lt_of_lt_of_le (hM b h) hb'.size, hb', ?_⟩
      rw [he]
      exact ⟨_, rfl, .int _ _⟩
    split at h
    · rename_i xs
      cases h
      have hs : cargs.size = 1 := hl.symm
      have e : cargs = #[cargs[0]] := by
        apply Array.ext
        · exact hs
        · intro j h1 h2
          have : j = 0 := by omega
          subst this; rfl
      exact main cargs[0] _ _ e (bods_rep (hr 0 _ _ rfl (Array.getElem?_eq_getElem (by omega)))) rfl
    · cases h
      have hs : cargs.size = 1 := hl.symm
      have e : cargs = #[cargs[0]] := by
        apply Array.ext
        · exact hs
        · intro j h1 h2
          have : j = 0 := by omega
          subst this; rfl
      have r := hr 0 _ _ rfl (Array.getElem?_eq_getElem (by omega : 0 < cargs.size))
      refine main cargs[0] [] _ e (.inl ⟨none, 0, ?_, rfl⟩) rfl
      exact rep_nilv r
    · cases h
end Go.Proofs.YteaadpgpihggeaaGreat

namespace Go.Proofs.YteaadpgpihggeaaGreat
open Go.RowKit
section
variable {α : Type} (t n x y sx sy sp : Int) (o : Bool) (t' n' x' y' sx' sy' sp' : Int) (o' : Bool) (el : Int) (k : AOut → Option α)
end
end Go.Proofs.YteaadpgpihggeaaGreat

namespace Go.Proofs.YteaadpgpihggeaaGreat
end Go.Proofs.YteaadpgpihggeaaGreat

namespace Go.Proofs.YteaadpgpihggeaaGreat
open Go.RowKit
theorem i64_in (n : Int) (h : -9223372036854775808 ≤ n ∧ n ≤ 9223372036854775807) : IntKind.i64.wrap n = n := by rw [IntKind.wrap_i64]; omega
end Go.Proofs.YteaadpgpihggeaaGreat

namespace Go.Proofs.YteaadpgpihggeaaGreat
open Go.RowKit
noncomputable def mW (dx dy c : Int) : Int := sg (ngB c) (shr (ab c) (sq2 dx dy))
structure Way (dx dy : Int) : Prop where
  wx : -65536 ≤ mW dx dy dx ∧ mW dx dy dx ≤ 65536
  wy : -65536 ≤ mW dx dy dy ∧ mW dx dy dy ≤ 65536
  sq : mW dx dy dx * mW dx dy dx + mW dx dy dy * mW dx dy dy ≤ 4294967296
  e : uniE dx dy = 0
  vx : uniV dx dy dx = mW dx dy dx
  vy : uniV dx dy dy = mW dx dy dy
end Go.Proofs.YteaadpgpihggeaaGreat

namespace Go.Proofs.YteaadpgpihggeaaGreat
open Go.RowKit
structure BodIs (t n x y sx sy sp : Int) : Prop where
  t : 0 ≤ t ∧ t ≤ 1
  n : 0 ≤ n ∧ n ≤ 7
  x : -6553600000 ≤ x ∧ x ≤ 6553600000
  y : -6553600000 ≤ y ∧ y ≤ 6553600000
  sx : -65536000 ≤ sx ∧ sx ≤ 65536000
  sy : -65536000 ≤ sy ∧ sy ≤ 65536000
  sp : -1000 ≤ sp ∧ sp ≤ 1000
theorem bod_is {t n x y sx sy sp : Int} : bodB t n x y sx sy sp = true ↔ BodIs t n x y sx sy sp := by
  simp only [bodB, movC, rgB, Bool.and_eq_true, decide_eq_true_eq]
  exact ⟨fun ⟨⟨a, b⟩, ⟨⟨⟨c, d⟩, e⟩, f⟩, g⟩ => ⟨a, b, c, d, e, f, g⟩, fun ⟨a, b, c, d, e, f, g⟩ => ⟨⟨a, b⟩, ⟨⟨⟨c, d⟩, e⟩, f⟩, g⟩⟩
end Go.Proofs.YteaadpgpihggeaaGreat

namespace Go.Proofs.YteaadpgpihggeaaGreat
open Go.RowKit
theorem wBc_ex : ∃ f : Int → Bool, f = wB := ⟨_, rfl⟩
noncomputable def wBc : Int → Bool := Classical.choose wBc_ex
theorem wBc_eq : wBc = wB := Classical.choose_spec wBc_ex
noncomputable def prodCS : Fsp := fun _ args k => match args with
  | [.int .u64 x, .int .u64 y] => bif wBc x && wBc y then k (.ret (.agg [uN (hiW (x * y)), uN (loW (x * y))])) else none
  | _ => none
theorem prodCS_ok : FspOk Tryz.prog 100 prodCS := by
  have e : prodCS = prodS := by
    unfold prodCS prodS; rw [wBc_eq]; rfl
  rw [e]; exact prodS_ok
noncomputable def cmpCS : Fsp := fun _ args k => match args with
  | [.agg [.int .u64 a, .int .u64 b], .agg [.int .u64 c, .int .u64 d]] => bif wBc b && wBc d then k (.ret (.int .i64 (cmp3 (vw a b) (vw c d)))) else none
  | _ => none
theorem cmpCS_ok : FspOk Tryz.prog 162 cmpCS := by
  have e : cmpCS = cmpVS := by
    unfold cmpCS cmpVS; rw [wBc_eq]; rfl
  rw [e]; exact cmpVS_ok
set_option maxRecDepth 100000 in
theorem ways_text (N n0 : Nat) (α : Type) (how : Int) (k : AOut → Option α) : evFn real tab ((twT fsF spC).env real tab N (n0 + 8)) N Tryz.f97 α [.int .i64 how] k =
 bif how == 0 then k (AOut.ret (AVal.fn 156 [])) else bif how == 1 then k (AOut.ret (AVal.fn 157 [])) else bif how == 2 then k (AOut.ret (AVal.fn 158 [])) else bif how == 3 then k
 (AOut.ret (AVal.fn 159 [])) else k (AOut.pan (AVal.ifc 227 (AVal.agg [AVal.int IntKind.i64 2]))) := by kernel_rfl
noncomputable def waysS : Fsp := fun _ args k => match args with
  | [.int .i64 how] => bif how == 0 then k (.ret (.fn 156 [])) else bif how == 1 then k (.ret (.fn 157 [])) else bif how == 2 then k (.ret (.fn 158 [])) else bif how == 3 then k (.ret (.fn 159 [])) else k (mis fxm 2)
  | _ => none
theorem waysS_ok : FspOk Tryz.prog 97 waysS := tower_S fsF_ok spC_ok ⟨Tryz.func97, fun _ _ => by kernel_rfl⟩ (by intro α args k; unfold waysS; split <;> first | rfl | simp only [cond_bind, Option.bind_some]) fun args out hs h => by
  unfold waysS at h
  split at h
  · rename_i how
    exact ⟨8, 8, (ways_text 8 0 AOut how some).trans h⟩
  · cases h
noncomputable def fsL0 : FuncId → Option Fsp := fun g =>
  if g = 97 then some waysS else
  if g = 100 then some prodCS else
  if g = 162 then some cmpCS else
  fsF g
theorem fsL0_ok : FsOk fsL0 :=
  fs_cons waysS_ok <|
  fs_cons prodCS_ok <|
  fs_cons cmpCS_ok <|
  fsF_ok
noncomputable def spL : FuncId → Option (Cv → Cv) := fun g =>
  spC g
theorem spL_ok : SpOk spL :=
  spC_ok
/-! How a way rounds. -/
set_option maxRecDepth 100000 in
theorem way0_text (N n0 : Nat) (α : Type) (x : Int) (b : Bool) (k : AOut → Option α) : evFn real tab ((twT fsL0 spC).env real tab N (n0 + 8)) N Tryz.f156 α [.int .i64 x, .bool b] k =
 k (AOut.ret (AVal.bool false)) := by kernel_rfl
set_option maxRecDepth 100000 in
theorem way1_text (N n0 : Nat) (α : Type) (x : Int) (b : Bool) (k : AOut → Option α) : evFn real tab ((twT fsL0 spC).env real tab N (n0 + 8)) N Tryz.f157 α [.int .i64 x, .bool b] k =
 k (AOut.ret (AVal.bool b)) := by kernel_rfl
set_option maxRecDepth 100000 in
theorem way2_text (N n0 : Nat) (α : Type) (x : Int) (b : Bool) (k : AOut → Option α) : evFn real tab ((twT fsL0 spC).env real tab N (n0 + 8)) N Tryz.f158 α [.int .i64 x, .bool b] k =
 k (AOut.ret (AVal.bool !b)) := by kernel_rfl
set_option maxRecDepth 100000 in
theorem way3_text (N n0 : Nat) (α : Type) (x : Int) (b : Bool) (k : AOut → Option α) : evFn real tab ((twT fsL0 spC).env real tab N (n0 + 8)) N Tryz.f159 α [.int .i64 x, .bool b] k =
 k (AOut.ret (AVal.bool (decide (x ≥ 0)))) := by kernel_rfl
theorem way0_fin (x : Int) (b : Bool) (hs : ∀ c ∈ ([.int .i64 x, .bool b] : List AVal), Sm c) : ∃ N n, ∀ α (k : AOut → Option α), evFn real tab ((twT fsL0 spC).env real tab N n) N Tryz.f156 α [.int .i64 x, .bool b] k = k (b1 false) := by
  exact ⟨8, 8, fun α k => way0_text 8 0 α x b k⟩
noncomputable def way0S : Fsp := fun _ args k => match args with
  | [.int .i64 x, .bool b] => k (b1 false)
  | _ => none
theorem way0S_ok : FspOk Tryz.prog 156 way0S := tower_S fsL0_ok spC_ok ⟨Tryz.func156, fun _ _ => by kernel_rfl⟩ (by intro α args k; unfold way0S; split <;> rfl) fun args out hSm hEq => by
  unfold way0S at hEq
  split at hEq
  · rename_i x b
    obtain ⟨N, n, e⟩ := way0_fin x b hSm
    exact ⟨N, n, (e AOut some).trans hEq⟩
  · cases hEq
theorem way1_fin (x : Int) (b : Bool) (hs : ∀ c ∈ ([.int .i64 x, .bool b] : List AVal), Sm c) : ∃ N n, ∀ α (k : AOut → Option α), evFn real tab ((twT fsL0 spC).env real tab N n) N Tryz.f157 α [.int .i64 x, .bool b] k = k (b1 b) := by
  exact ⟨8, 8, fun α k => way1_text 8 0 α x b k⟩
noncomputable def way1S : Fsp := fun _ args k => match args with
  | [.int .i64 x, .bool b] => k (b1 b)
  | _ => none
theorem way1S_ok : FspOk Tryz.prog 157 way1S := tower_S fsL0_ok spC_ok ⟨Tryz.func157, fun _ _ => by kernel_rfl⟩ (by intro α args k; unfold way1S; split <;> rfl) fun args out hSm hEq => by
  unfold way1S at hEq
  split at hEq
  · rename_i x b
    obtain ⟨N, n, e⟩ := way1_fin x b hSm
    exact ⟨N, n, (e AOut some).trans hEq⟩
  · cases hEq
theorem way2_fin (x : Int) (b : Bool) (hs : ∀ c ∈ ([.int .i64 x, .bool b] : List AVal), Sm c) : ∃ N n, ∀ α (k : AOut → Option α), evFn real tab ((twT fsL0 spC).env real tab N n) N Tryz.f158 α [.int .i64 x, .bool b] k = k (b1 (!b)) := by
  exact ⟨8, 8, fun α k => way2_text 8 0 α x b k⟩
noncomputable def way2S : Fsp := fun _ args k => match args with
  | [.int .i64 x, .bool b] => k (b1 (!b))
  | _ => none
theorem way2S_ok : FspOk Tryz.prog 158 way2S := tower_S fsL0_ok spC_ok ⟨Tryz.func158, fun _ _ => by kernel_rfl⟩ (by intro α args k; unfold way2S; split <;> rfl) fun args out hSm hEq => by
  unfold way2S at hEq
  split at hEq
  · rename_i x b
    obtain ⟨N, n, e⟩ := way2_fin x b hSm
    exact ⟨N, n, (e AOut some).trans hEq⟩
  · cases hEq
theorem way3_fin (x : Int) (b : Bool) (hs : ∀ c ∈ ([.int .i64 x, .bool b] : List AVal), Sm c) : ∃ N n, ∀ α (k : AOut → Option α), evFn real tab ((twT fsL0 spC).env real tab N n) N Tryz.f159 α [.int .i64 x, .bool b] k = k (b1 (decide (x ≥ 0))) := by
  exact ⟨8, 8, fun α k => way3_text 8 0 α x b k⟩
noncomputable def way3S : Fsp := fun _ args k => match args with
  | [.int .i64 x, .bool b] => k (b1 (decide (x ≥ 0)))
  | _ => none
theorem way3S_ok : FspOk Tryz.prog 159 way3S := tower_S fsL0_ok spC_ok ⟨Tryz.func159, fun _ _ => by kernel_rfl⟩ (by intro α args k; unfold way3S; split <;> rfl) fun args out hSm hEq => by
  unfold way3S at hEq
  split at hEq
  · rename_i x b
    obtain ⟨N, n, e⟩ := way3_fin x b hSm
    exact ⟨N, n, (e AOut some).trans hEq⟩
  · cases hEq
noncomputable def fsL1 : FuncId → Option Fsp := fun g =>
  if g = 156 then some way0S else
  if g = 157 then some way1S else
  if g = 158 then some way2S else
  if g = 159 then some way3S else
  fsL0 g
theorem fsL1_ok : FsOk fsL1 :=
  fs_cons way0S_ok <|
  fs_cons way1S_ok <|
  fs_cons way2S_ok <|
  fs_cons way3S_ok <|
  fsL0_ok
noncomputable def fsL2 : FuncId → Option Fsp := fun g =>
  fsL1 g
theorem fsL2_ok : FsOk fsL2 :=
  fsL1_ok
noncomputable def fsL3 : FuncId → Option Fsp := fun g =>
  fsL2 g
theorem fsL3_ok : FsOk fsL3 :=
  fsL2_ok
end Go.Proofs.YteaadpgpihggeaaGreat

namespace Go.Proofs.YteaadpgpihggeaaGreat
open Go.RowKit
section
variable {X α σ : Type}
theorem any_rangeX (xs : List X) (d : X) (q : X → Bool) : ((List.range xs.length).any fun i => q (xs.getD i d)) = xs.any q := by
  rw [Bool.eq_iff_iff, List.any_eq_true, List.any_eq_true]
  constructor
  · rintro ⟨i, hi, hq⟩
    have hlt := List.mem_range.1 hi
    rw [List.getD_eq_getElem?_getD, List.getElem?_eq_getElem hlt] at hq
    exact ⟨_, List.getElem_mem hlt, hq⟩
  · rintro ⟨x, hx, hq⟩
    obtain ⟨i, hlt, rfl⟩ := List.mem_iff_getElem.1 hx
    refine ⟨i, List.mem_range.2 hlt, ?_⟩
    rw [List.getD_eq_getElem?_getD, List.getElem?_eq_getElem hlt]
    exact hq
theorem count_loop {f : σ → Option (LRes σ α)} {K : Nat → σ → Option α} (st : Nat → σ) (n : Nat) {b : Nat} {y : σ} (h : ∀ i, i < n → f (st i) = some (.cont (st (i + 1)))) (hend : f (st n) = some (.brk b y)) {N : Nat} (hN : n < N) : afterL (iterL N f (st 0)) K = K b y := by
  rw [iterL_count st (brk_not b y) n h hend 0 (Nat.zero_le _) N (by omega)]
  rfl
theorem any_loop {f : σ → Option (LRes σ α)} {K : Nat → σ → Option α} (st : Nat → σ) (n : Nat) (p : Nat → Bool) {b : Nat} {y : σ} (R : Option α) (h : ∀ i, i < n → f (st i) = bif p i then finL R else some (.cont (st (i + 1)))) (hend : f (st n) = some (.brk b y)) : afterL (iterL (n + 1) f (st 0)) K = bif (List.range n).any p then R else K b y := by
  rw [iterL_any st p (fin_not R) (brk_not b y) n h hend]
  cases (List.range n).any p
  · rfl
  · cases R <;> rfl
end
theorem lt_len {i n : Nat} (h : i < n) : decide ((i : Int) < (n : Int)) = true := decide_eq_true (by omega)
theorem not_lt_len {n : Nat} : decide ((n : Int) < (n : Int)) = false := decide_eq_false (by omega)
theorem in_len {i n : Nat} (h : i < n) : 0 ≤ (i : Int) ∧ (i : Int) < (n : Int) := ⟨by omega, by omega⟩
theorem wrap_next {i n : Nat} (h : i < n) (hn : n ≤ maxLen) : IntKind.i64.wrap ((i : Int) + 1) = ((i + 1 : Nat) : Int) := wrap_small (n := i + 1) (by omega)
end Go.Proofs.YteaadpgpihggeaaGreat

namespace Go.Proofs.YteaadpgpihggeaaGreat
open Go.RowKit
def er2 (b : Bool) : Int := bif b then 0 else 2
def plcB (x y : Int) : Bool := (decide (-6553600000 ≤ x) && decide (x ≤ 6553600000)) && (decide (-6553600000 ≤ y) && decide (y ≤ 6553600000))
noncomputable def fsI0 : FuncId → Option Fsp := fun g =>
  fsL3 g
theorem fsI0_ok : FsOk fsI0 :=
  fsL3_ok
/-! First places, for the functions that are asked. -/
noncomputable def fsI1 : FuncId → Option Fsp := fun g =>
  fsI0 g
theorem fsI1_ok : FsOk fsI1 :=
  fsI0_ok
noncomputable def fsI2 : FuncId → Option Fsp := fun g =>
  fsI1 g
theorem fsI2_ok : FsOk fsI2 :=
  fsI1_ok
noncomputable def fsI3 : FuncId → Option Fsp := fun g =>
  fsI2 g
theorem fsI3_ok : FsOk fsI3 :=
  fsI2_ok
noncomputable def fsI4 : FuncId → Option Fsp := fun g =>
  fsI3 g
theorem fsI4_ok : FsOk fsI4 :=
  fsI3_ok
/-! Cells, brakes and bends. -/
noncomputable def fsI5 : FuncId → Option Fsp := fun g =>
  fsI4 g
theorem fsI5_ok : FsOk fsI5 :=
  fsI4_ok
end Go.Proofs.YteaadpgpihggeaaGreat

namespace Go.Proofs.YteaadpgpihggeaaGreat
open Go.RowKit
noncomputable def fsI6 : FuncId → Option Fsp := fun g =>
  fsI5 g
theorem fsI6_ok : FsOk fsI6 :=
  fsI5_ok
end Go.Proofs.YteaadpgpihggeaaGreat

namespace Go.Proofs.YteaadpgpihggeaaGreat
open Go.RowKit
/-! The corners of a cell, by the program's own wraps. -/
/-! What it comes to. -/
def mx (a b : Int) : Int := if a < b then b else a
noncomputable def fsI7 : FuncId → Option Fsp := fun g =>
  fsI6 g
theorem fsI7_ok : FsOk fsI7 :=
  fsI6_ok
end Go.Proofs.YteaadpgpihggeaaGreat

namespace Go.Proofs.YteaadpgpihggeaaGreat
open Go.RowKit
noncomputable def fsI8 : FuncId → Option Fsp := fun g =>
  fsI7 g
theorem fsI8_ok : FsOk fsI8 :=
  fsI7_ok
/-! The cells that a way touches, in their order. -/
section
variable {τ α : Type}
end
end Go.Proofs.YteaadpgpihggeaaGreat

namespace Go.Proofs.YteaadpgpihggeaaGreat
open Go.RowKit
noncomputable def fsIt : FuncId → Option Fsp := fun g =>
  fsI8 g
theorem fsIt_ok : FsOk fsIt :=
  fsI8_ok
end Go.Proofs.YteaadpgpihggeaaGreat

namespace Go.Proofs.YteaadpgpihggeaaGreat
open Go.RowKit
/-! What is done with each cell. -/
noncomputable def fsI9 : FuncId → Option Fsp := fun g =>
  fsIt g
theorem fsI9_ok : FsOk fsI9 :=
  fsIt_ok
end Go.Proofs.YteaadpgpihggeaaGreat

namespace Go.Proofs.YteaadpgpihggeaaGreat
open Go.RowKit
/-! Lists, some of whose numbers something is done with. -/
/-! Boxes. -/
section
variable {σ α : Type}
end
end Go.Proofs.YteaadpgpihggeaaGreat

namespace Go.Proofs.YteaadpgpihggeaaGreat
open Go.RowKit
def i3 (a b e : Int) : AOut := .ret (.tup [.int .i64 a, .int .i64 b, .int .i64 e])
end Go.Proofs.YteaadpgpihggeaaGreat

namespace Go.Proofs.YteaadpgpihggeaaGreat
open Go.RowKit
section
variable {σ τ α β : Type}
def LRes.map (e : σ → τ) (g : α → β) : LRes σ α → LRes τ β
  | .cont x => .cont (e x)
  | .brk id x => .brk id (e x)
  | .fin a => .fin (g a)
end
end Go.Proofs.YteaadpgpihggeaaGreat

namespace Go.Proofs.YteaadpgpihggeaaGreat
open Go.RowKit
def SimV (u v : AVal) : Prop := ∀ (h : List ABlk) (g : Gh) (w : World) (x : Value), Rep h g w u x → Rep h g w v x
theorem SimV.refl (u : AVal) : SimV u u := fun _ _ _ _ r => r
theorem fsp_sim {P : Program} {f : FuncId} {S S' : Fsp} (h : FspOk P f S) (hn : ∀ (α : Type) args (k : AOut → Option α), S' α args k = (S' AOut args some).bind k)
    (hs : ∀ args out, S' AOut args some = some out → ∃ v v', out = .ret v' ∧ S AOut args some = some (.ret v) ∧ SimV v v') : FspOk P f S' where
  enter := h.enter
  nat := hn
  calls := fun args out hout M w cargs hM hl hr => by
    obtain ⟨v, v', rfl, h1, h2⟩ := hs args out hout
    refine (h.calls args (.ret v) h1 M w cargs hM hl hr).mono fun e w' hp => ?_
    obtain ⟨M', m1, m2, m3, hb, x, he, hx⟩ := hp
    exact ⟨M', m1, m2, m3, hb, x, he, h2 _ _ _ _ hx⟩
def selI (c : Bool) (x : Int) : Int := bif c then x else 0
noncomputable def fsI12 : FuncId → Option Fsp := fun g =>
  fsI9 g
theorem fsI12_ok : FsOk fsI12 :=
  fsI9_ok
end Go.Proofs.YteaadpgpihggeaaGreat

namespace Go.Proofs.YteaadpgpihggeaaGreat
open Go.RowKit
noncomputable def spG : FuncId → Option (Cv → Cv) := fun g =>
  spL g
theorem spG_ok : SpOk spG :=
  spL_ok
end Go.Proofs.YteaadpgpihggeaaGreat

namespace Go.Proofs.YteaadpgpihggeaaGreat
open Go.RowKit
noncomputable def fsG1 : FuncId → Option Fsp := fun g =>
  fsI12 g
theorem fsG1_ok : FsOk fsG1 :=
  fsI12_ok
end Go.Proofs.YteaadpgpihggeaaGreat

namespace Go.Proofs.YteaadpgpihggeaaGreat
open Go.RowKit
def onlyS (S : Fsp) : Fsp := fun α args k => S α args fun out => match out with
  | .ret (.tup [v, .int .i64 e]) => bif e == 0 then k (.ret (.tup [v, .int .i64 0])) else none
  | _ => none
theorem only_ok {P : Program} {f : FuncId} {S : Fsp} (h : FspOk P f S) : FspOk P f (onlyS S) := by
  have e : ∀ (α : Type) args (k : AOut → Option α), onlyS S α args k = (S AOut args some).bind fun out => match out with
      | .ret (.tup [v, .int .i64 e]) => bif e == 0 then k (.ret (.tup [v, .int .i64 0])) else none
      | _ => none := fun α args k => h.nat α args _
  refine fsp_sim h (fun α args k => ?_) fun args out hq => ?_
  · rw [e, e]
    cases S AOut args some with
    | none => rfl
    | some out =>
      simp only [Option.bind_some]
      split
      · rename_i v er
        cases er == 0 <;> rfl
      · rfl
  · rw [e] at hq
    cases hs : S AOut args some with
    | none => rw [hs] at hq; cases hq
    | some o =>
      rw [hs] at hq
      simp only [Option.bind_some] at hq
      split at hq
      · rename_i v er
        cases he : er == 0
        · rw [he] at hq; cases hq
        · rw [he] at hq
          have h0 : er = 0 := by simpa using he
          subst h0
          cases hq
          exact ⟨_, _, rfl, rfl, .refl _⟩
      · cases hq
noncomputable def fsG2 : FuncId → Option Fsp := fun g =>
  if g = 141 then some (onlyS minusPS) else
  if g = 45 then some (onlyS plusPS) else
  if g = 148 then some (onlyS scaleS) else
  if g = 147 then some (onlyS timesS) else
  if g = 144 then some (onlyS uniS) else
  fsG1 g
theorem fsG2_ok : FsOk fsG2 :=
  fs_cons (only_ok minusPS_ok) <|
  fs_cons (only_ok plusPS_ok) <|
  fs_cons (only_ok scaleS_ok) <|
  fs_cons (only_ok timesS_ok) <|
  fs_cons (only_ok uniS_ok) <|
  fsG1_ok
end Go.Proofs.YteaadpgpihggeaaGreat

namespace Go.Proofs.YteaadpgpihggeaaGreat
open Go.RowKit
def movB (ax ay vx vy sp : Int) : Bool := plcB ax ay && ((decide (-65536000 ≤ vx) && decide (vx ≤ 65536000)) && (decide (-65536000 ≤ vy) && decide (vy ≤ 65536000))) && (decide (-1000 ≤ sp) && decide (sp ≤ 1000))
set_option maxRecDepth 100000 in
theorem gcheck_text (N n0 : Nat) (α : Type) (ax ay vx vy sp : Int) (k : AOut → Option α) : evFn real tab ((twY fsG2 spG).env real tab N (n0 + 8)) N Tryz.f93 α [.agg [.int .i64 ax, .int .i64 ay, .int .i64 vx, .int .i64 vy, .int .i64 sp]] k =
 bif decide (IntKind.i64.wrap (0 - 6553600000) ≤ ax) then bif decide (ax ≤ 6553600000) then bif decide (IntKind.i64.wrap (0 - 6553600000) ≤ ay) then bif !decide (ay ≤ 6553600000)
 then k (i1 2) else bif decide (IntKind.i64.wrap (0 - 65536000) ≤ vx) then bif decide (vx ≤ 65536000) then bif decide (IntKind.i64.wrap (0 - 65536000) ≤ vy) then bif !decide (vy ≤
 65536000) then k (i1 2) else bif decide (-1000 ≤ sp) then bif !decide (sp ≤ 1000) then k (i1 2) else k (i1 0) else k (i1 2) else k (i1 2) else k (i1 2) else k (i1 2) else k (i1 2)
 else k (i1 2) else k (i1 2) := by kernel_rfl
theorem gcheck_fin (ax ay vx vy sp : Int) (hs : ∀ qSm ∈ ([.agg [.int .i64 ax, .int .i64 ay, .int .i64 vx, .int .i64 vy, .int .i64 sp]] : List AVal), Sm qSm) : ∃ N n, ∀ α (k : AOut → Option α), evFn real tab ((twY fsG2 spG).env real tab N n) N Tryz.f93 α [.agg [.int .i64 ax, .int .i64 ay, .int .i64 vx, .int .i64 vy, .int .i64 sp]] k = k (i1 (er2 (movB ax ay vx vy sp))) := by
  refine ⟨8, 8, fun α k => (gcheck_text 8 0 α ax ay vx vy sp k).trans ?_⟩
  have e1 : IntKind.i64.wrap (0 - 6553600000) = -6553600000 := by decide
  have e2 : IntKind.i64.wrap (0 - 65536000) = -65536000 := by decide
  rw [e1, e2]
  unfold movB plcB
  cases decide (-6553600000 ≤ ax) <;> cases decide (ax ≤ 6553600000) <;> cases decide (-6553600000 ≤ ay) <;> cases decide (ay ≤ 6553600000) <;> first
    | rfl
    | (cases decide (-65536000 ≤ vx) <;> cases decide (vx ≤ 65536000) <;> cases decide (-65536000 ≤ vy) <;> cases decide (vy ≤ 65536000) <;> cases decide (-1000 ≤ sp) <;> cases decide (sp ≤ 1000) <;> rfl)
noncomputable def gcheckS : Fsp := fun _ args k => match args with
  | [.agg [.int .i64 ax, .int .i64 ay, .int .i64 vx, .int .i64 vy, .int .i64 sp]] => k (i1 (er2 (movB ax ay vx vy sp)))
  | _ => none
theorem gcheckS_ok : FspOk Tryz.prog 93 gcheckS := tower_Y fsG2_ok spG_ok ⟨Tryz.func93, fun _ _ => by kernel_rfl⟩ (by intro α args k; unfold gcheckS; split <;> rfl) fun args out hSm hEq => by
  unfold gcheckS at hEq
  split at hEq
  · rename_i ax ay vx vy sp
    obtain ⟨N, n, e⟩ := gcheck_fin ax ay vx vy sp hSm
    exact ⟨N, n, (e AOut some).trans hEq⟩
  · cases hEq
noncomputable def fsG3 : FuncId → Option Fsp := fun g =>
  if g = 93 then some gcheckS else
  fsG2 g
theorem fsG3_ok : FsOk fsG3 :=
  fs_cons gcheckS_ok <|
  fsG2_ok
end Go.Proofs.YteaadpgpihggeaaGreat

namespace Go.Proofs.YteaadpgpihggeaaGreat
open Go.RowKit
section
variable {α : Type}
end
end Go.Proofs.YteaadpgpihggeaaGreat

namespace Go.Proofs.YteaadpgpihggeaaGreat
open Go.RowKit
end Go.Proofs.YteaadpgpihggeaaGreat

namespace Go.Proofs.YteaadpgpihggeaaGreat
open Go.RowKit
noncomputable def fsG4 : FuncId → Option Fsp := fun g =>
  fsG3 g
theorem fsG4_ok : FsOk fsG4 :=
  fsG3_ok
noncomputable def fsG5 : FuncId → Option Fsp := fun g =>
  fsG4 g
theorem fsG5_ok : FsOk fsG5 :=
  fsG4_ok
end Go.Proofs.YteaadpgpihggeaaGreat

namespace Go.Proofs.YteaadpgpihggeaaGreat
open Go.RowKit
noncomputable def fsG6 : FuncId → Option Fsp := fun g =>
  fsG5 g
theorem fsG6_ok : FsOk fsG6 :=
  fsG5_ok
end Go.Proofs.YteaadpgpihggeaaGreat

namespace Go.Proofs.YteaadpgpihggeaaGreat
open Go.RowKit
section
variable {S A σ α : Type}
end
/-! Stones. -/
/-! Places of a way. -/
end Go.Proofs.YteaadpgpihggeaaGreat

namespace Go.Proofs.YteaadpgpihggeaaGreat
open Go.RowKit
/-! Way. -/
end Go.Proofs.YteaadpgpihggeaaGreat

namespace Go.Proofs.YteaadpgpihggeaaGreat
open Go.RowKit
abbrev BdI := Int × Int × ((Int × Int × Unit) × (Int × Int × Unit) × Int × Unit) × Bool × Unit
abbrev StI := Int × Int × (Int × Int × Unit) × Unit
def bdD : BdI := (0, 0, ((0, 0, ()), (0, 0, ()), 0, ()), false, ())
def stD : StI := (0, 0, (0, 0, ()), ())
abbrev BdI.x (b : BdI) : Int := b.2.2.1.1.1
abbrev BdI.y (b : BdI) : Int := b.2.2.1.1.2.1
abbrev BdI.u (b : BdI) : Int := b.2.2.1.2.1.1
abbrev BdI.v (b : BdI) : Int := b.2.2.1.2.1.2.1
abbrev BdI.s (b : BdI) : Int := b.2.2.1.2.2.1
abbrev BdI.o (b : BdI) : Bool := b.2.2.2.1
def bdC (b : BdI) : Ck.Bod := bodOf b
def sceB (l : List BdI) : Bool := Ck.sceneB (l.map bdC)
def sceE (l : List BdI) : Int := bif sceB l then 0 else 2
def cckF : List AVal → Option AOut
  | [.ro (.recd (.cons (.int .i64) (.cons (.int .i64) (.cons (.recd (.cons (.recd (.cons (.int .i64) (.cons (.int .i64) .nil))) (.cons (.recd (.cons (.int .i64) (.cons (.int .i64) .nil))) (.cons (.int .i64) .nil)))) (.cons .bool .nil))))) xs] => some (i1 (sceE xs))
  | [.nils] => some (i1 0)
  | _ => none
theorem fsp_same2 {P : Program} {f : FuncId} {F G : List AVal → Option AOut} (h : ∀ args out, G args = some out → F args = some out) (hF : FspOk P f (toFsp F)) : FspOk P f (toFsp G) where
  enter := hF.enter
  nat := toFsp_nat _
  calls := fun args out hout => hF.calls args out (by
    have := h args out (toFsp_some hout)
    unfold toFsp
    rw [this])
theorem sc_is (l : List BdI) : scnE l = sceE l := by
  show Ck.errB (Ck.sceneB (l.map bdC)) = bif Ck.sceneB (l.map bdC) then 0 else 2
  cases Ck.sceneB (l.map bdC) <;> rfl
theorem cck_ok : FspOk Tryz.prog 20 (toFsp cckF) := fsp_same2 (fun args out h => by
  unfold cckF at h
  split at h
  · rename_i xs
    cases h
    exact congrArg (fun e => some (i1 e)) (sc_is xs)
  · cases h; rfl
  · cases h) ccheck_fsp
noncomputable def fsC0 : FuncId → Option Fsp := fun g =>
  if g = 20 then some (toFsp cckF) else
  if g = 50 then some validS else
  if g = 86 then some touchS else
  fsG6 g
theorem fsC0_ok : FsOk fsC0 :=
  fs_cons cck_ok <|
  fs_cons validS_ok <|
  fs_cons touchS_ok <|
  fsG6_ok
def fmL {X Y : Type} (p : X → Bool) (g : X → Y) (d : X) (l : List X) : Nat → List Y
  | 0 => []
  | i + 1 => bif p (l.getD i d) then fmL p g d l i ++ [g (l.getD i d)] else fmL p g d l i
theorem fmL_len {X Y : Type} (p : X → Bool) (g : X → Y) (d : X) (l : List X) : ∀ i, (fmL p g d l i).length ≤ i
  | 0 => Nat.le_refl _
  | i + 1 => by
    have := fmL_len p g d l i
    rw [fmL]
    cases p (l.getD i d)
    · simp only [cond_false]; omega
    · simp only [cond_true, List.length_append, List.length_singleton]; omega
theorem fmL_all {X Y : Type} (p : X → Bool) (g : X → Y) (d : X) (l : List X) : fmL p g d l l.length = (l.filter p).map g := by
  have key : ∀ i, i ≤ l.length → fmL p g d l i = ((l.take i).filter p).map g := fun i => by
    induction i with
    | zero => intro _; rfl
    | succ i ih =>
      intro h
      have e : l.getD i d = l[i] := by rw [List.getD_eq_getElem?_getD, List.getElem?_eq_getElem (by omega)]; rfl
      rw [fmL, ih (by omega), List.take_add_one, List.getElem?_eq_getElem (by omega), List.filter_append, List.map_append, e]
      cases hp : p l[i]
      · simp [hp]
      · simp [hp]
  rw [key _ (Nat.le_refl _), List.take_length]
/-! Valid scenes. -/
def bdOk (b : BdI) : Bool := bodB b.1 b.2.1 b.x b.y b.u b.v b.s
theorem scnB_eq (l : List BdI) : sceB l = Ck.sceneB (l.map bdC) := rfl
theorem bods_mem : ∀ (l : List BdI) (pre : List Ck.Bod), Ck.bodsOk pre (l.map bdC) = true → ∀ b ∈ l, bdOk b = true ∧ (b.o = true → b.u = 0 ∧ b.v = 0 ∧ b.s = 0)
  | [], _, _, _, h => by cases h
  | c :: r, pre, h, b, hb => by
    rw [List.map_cons, Ck.bodsOk, Bool.and_eq_true] at h
    rcases List.mem_cons.1 hb with rfl | hb
    · have h1 := h.1
      simp only [Ck.Bod.bad, Bool.not_eq_true', Bool.or_eq_false_iff] at h1
      refine ⟨(by simpa using h1.1 : (bdC b).ok = true), fun ho => ?_⟩
      have h2 := h1.2.2
      have ho' : (bdC b).out = true := ho
      rw [ho', Bool.true_and] at h2
      simp only [Bool.or_eq_false_iff, Bool.not_eq_false', Ck.Bod.rests, Bool.and_eq_true, beq_iff_eq, bne_eq_false_iff_eq] at h2
      exact ⟨h2.1.1, h2.1.2, h2.2⟩
    · exact bods_mem r _ h.2 b hb
theorem scn_len {l : List BdI} (h : sceB l = true) : l.length ≤ 16 := by
  rw [scnB_eq] at h
  unfold Ck.sceneB at h
  rw [Bool.and_eq_true, decide_eq_true_eq, List.length_map] at h
  exact h.1
theorem scn_mem {l : List BdI} (h : sceB l = true) : ∀ b ∈ l, bdOk b = true ∧ (b.o = true → b.u = 0 ∧ b.v = 0 ∧ b.s = 0) := by
  rw [scnB_eq] at h
  unfold Ck.sceneB at h
  rw [Bool.and_eq_true] at h
  exact bods_mem l [] h.2
theorem getD_mem {X : Type} {l : List X} {i : Nat} (d : X) (h : i < l.length) : l.getD i d ∈ l := by
  rw [List.getD_eq_getElem?_getD, List.getElem?_eq_getElem h]; exact List.getElem_mem h
theorem rgB_iff {v m : Int} : rgB v m = true ↔ -m ≤ v ∧ v ≤ m := by simp only [rgB, Bool.and_eq_true, decide_eq_true_eq]
theorem bdOk_in {b : BdI} (h : bdOk b = true) : (0 ≤ b.1 ∧ b.1 ≤ 1) ∧ (0 ≤ b.2.1 ∧ b.2.1 ≤ 7) ∧ (-6553600000 ≤ b.x ∧ b.x ≤ 6553600000) ∧ (-6553600000 ≤ b.y ∧ b.y ≤ 6553600000) ∧ (-65536000 ≤ b.u ∧ b.u ≤ 65536000) ∧ (-65536000 ≤ b.v ∧ b.v ≤ 65536000) ∧ (-1000 ≤ b.s ∧ b.s ≤ 1000) := by
  simp only [bdOk, bodB, movC, Bool.and_eq_true, decide_eq_true_eq, rgB_iff] at h
  obtain ⟨⟨h1, h2⟩, ⟨⟨⟨h3, h4⟩, h5⟩, h6⟩, h7⟩ := h
  exact ⟨h1, h2, h3, h4, h5, h6, h7⟩
/-! Momentum. -/
def smU (l : List BdI) : Nat → Int
  | 0 => 0
  | i + 1 => smU l i + (l.getD i bdD).u
def smV (l : List BdI) : Nat → Int
  | 0 => 0
  | i + 1 => smV l i + (l.getD i bdD).v
theorem sm_in {l : List BdI} (h : sceB l = true) : ∀ i, i ≤ l.length → (-(65536000 * (i : Int)) ≤ smU l i ∧ smU l i ≤ 65536000 * (i : Int)) ∧ (-(65536000 * (i : Int)) ≤ smV l i ∧ smV l i ≤ 65536000 * (i : Int))
  | 0, _ => by simp [smU, smV]
  | i + 1, hi => by
    have ih := sm_in h i (by omega)
    have hb := bdOk_in (scn_mem h _ (getD_mem bdD (show i < l.length by omega))).1
    simp only [smU, smV]
    omega
theorem pl_eq {x y u v : Int} (h : (-35184372088832 ≤ x ∧ x ≤ 35184372088832) ∧ (-35184372088832 ≤ y ∧ y ≤ 35184372088832) ∧ (-35184372088832 ≤ u ∧ u ≤ 35184372088832) ∧ (-35184372088832 ≤ v ∧ v ≤ 35184372088832)) : plX x y u v = x + u ∧ plY x y u v = y + v ∧ plE x y u v = 0 := by
  have hab : ∀ n : Int, -70368744177664 ≤ n ∧ n ≤ 70368744177664 → fxB (ab n) = true := fun n hn => by
    simp only [fxB, decide_eq_true_eq]
    first | (unfold ab; split <;> omega) | (unfold ab ngB; cases hh : decide (n < 0) <;> simp at hh ⊢ <;> omega)
  have h4 : four x y u v = true := by
    simp only [four, okB, Bool.and_eq_true, decide_eq_true_eq]; omega
  simp only [plX, plY, plE, plP, two2, h4, hab (x + u) (by omega), hab (y + v) (by omega), Bool.and_self, cond_true, and_self]
def cmF {α : Type} (l : List BdI) (x : Int × Int × Int × Unit) : Option (LRes (Int × Int × Int × Unit) α) :=
  bif decide (x.1 < (l.length : Int)) then
    if 0 ≤ x.1 ∧ x.1 < (l.length : Int) then
      bif plE x.2.1 x.2.2.1 (l.getD x.1.toNat bdD).u (l.getD x.1.toNat bdD).v == 0 then
        some (.cont (IntKind.i64.wrap (x.1 + 1), plX x.2.1 x.2.2.1 (l.getD x.1.toNat bdD).u (l.getD x.1.toNat bdD).v, plY x.2.1 x.2.2.1 (l.getD x.1.toNat bdD).u (l.getD x.1.toNat bdD).v, ()))
      else none
    else none
  else some (.brk 0 (x.1, x.2.1, x.2.2.1, ()))
set_option maxRecDepth 100000 in
theorem cmom_text (N n0 : Nat) (α : Type) (l : List BdI) (k : AOut → Option α) : evFn real tab ((twY fsC0 spG).env real tab N (n0 + 8)) N Tryz.f12 α [.ro (.recd (.cons (.int .i64) (.cons (.int .i64) (.cons (.recd (.cons (.recd (.cons (.int .i64) (.cons (.int .i64) .nil))) (.cons (.recd (.cons (.int .i64) (.cons (.int .i64) .nil))) (.cons (.int .i64) .nil)))) (.cons .bool .nil))))) l] k =
 bif sceE l != 0 then k (.ret (.tup [.agg [iN 0, iN 0], iN (sceE l)])) else afterL (iterL N (cmF l) (0, 0, 0, ())) fun id y => if id = 0 then k (.ret (.tup [.agg [iN y.2.1, iN
 y.2.2.1], iN 0])) else none := by kernel_rfl
theorem cm_loop {α : Type} {l : List BdI} (h : sceB l = true) (K : Nat → Int × Int × Int × Unit → Option α) : afterL (iterL (l.length + 1) (cmF l) (0, 0, 0, ())) K = K 0 ((l.length : Int), smU l l.length, smV l l.length, ()) := by
  refine count_loop (f := cmF l) (fun i : Nat => ((i : Int), smU l i, smV l i, ())) l.length (fun i hi => ?_) ?_ (by omega)
  · have hl := scn_len h
    have a := sm_in h i (by omega)
    have hb := bdOk_in (scn_mem h _ (getD_mem bdD hi)).1
    obtain ⟨e1, e2, e3⟩ := pl_eq (x := smU l i) (y := smV l i) (u := (l.getD i bdD).u) (v := (l.getD i bdD).v) (by omega)
    unfold cmF
    simp only [lt_len hi, cond_true, in_len hi, if_pos, and_self, decide_true, Int.toNat_natCast, wrap_next hi (by have : maxLen = 9223372036854775807 := rfl; omega), e1, e2, e3, smU, smV]
    rfl
  · unfold cmF
    simp only [not_lt_len, cond_false]
theorem scnE_eq (l : List BdI) : sceE l = bif sceB l then 0 else 2 := rfl
theorem cmom_fin (l : List BdI) (hs : ∀ qSm ∈ ([.ro (.recd (.cons (.int .i64) (.cons (.int .i64) (.cons (.recd (.cons (.recd (.cons (.int .i64) (.cons (.int .i64) .nil))) (.cons (.recd (.cons (.int .i64) (.cons (.int .i64) .nil))) (.cons (.int .i64) .nil)))) (.cons .bool .nil))))) l] : List AVal), Sm qSm) : ∃ N n, ∀ α (k : AOut → Option α), evFn real tab ((twY fsC0 spG).env real tab N n) N Tryz.f12 α [.ro (.recd (.cons (.int .i64) (.cons (.int .i64) (.cons (.recd (.cons (.recd (.cons (.int .i64) (.cons (.int .i64) .nil))) (.cons (.recd (.cons (.int .i64) (.cons (.int .i64) .nil))) (.cons (.int .i64) .nil)))) (.cons .bool .nil))))) l] k = k (.ret (.tup [.agg [iN (selI (sceB l) (smU l l.length)), iN (selI (sceB l) (smV l l.length))], iN (sceE l)])) := by
  refine ⟨l.length + 1, 8, fun α k => (cmom_text _ 0 α l k).trans ?_⟩
  rw [scnE_eq]
  cases h : sceB l
  · rfl
  · exact cm_loop h _
noncomputable def cmomS : Fsp := fun _ args k => match args with
  | [.ro (.recd (.cons (.int .i64) (.cons (.int .i64) (.cons (.recd (.cons (.recd (.cons (.int .i64) (.cons (.int .i64) .nil))) (.cons (.recd (.cons (.int .i64) (.cons (.int .i64) .nil))) (.cons (.int .i64) .nil)))) (.cons .bool .nil))))) l] => k (.ret (.tup [.agg [iN (selI (sceB l) (smU l l.length)), iN (selI (sceB l) (smV l l.length))], iN (sceE l)]))
  | _ => none
theorem cmomS_ok : FspOk Tryz.prog 12 cmomS := tower_Y fsC0_ok spG_ok ⟨Tryz.func12, fun _ _ => by kernel_rfl⟩ (by intro α args k; unfold cmomS; split <;> rfl) fun args out hSm hEq => by
  unfold cmomS at hEq
  split at hEq
  · rename_i l
    obtain ⟨N, n, e⟩ := cmom_fin l hSm
    exact ⟨N, n, (e AOut some).trans hEq⟩
  · cases hEq
/-! Still. -/
def mvg (b : BdI) : Bool := !b.o && !(b.u == 0 && (b.v == 0 && true))
abbrev Bd1 := BdI × Unit
def b1D : Bd1 := (bdD, ())
def csF {α : Type} (l : List BdI) (x : List Bd1 × Int × Unit) : Option (LRes (List Bd1 × Int × Unit) α) :=
  bif decide (x.2.1 < (l.length : Int)) then
    if 0 ≤ x.2.1 ∧ x.2.1 < (l.length : Int) then
      if (x.1.length + [(l.getD x.2.1.toNat bdD, ())].length) * 64 ≤ room then some (.cont (x.1 ++ [(l.getD x.2.1.toNat bdD, ())], IntKind.i64.wrap (x.2.1 + 1), ())) else none
    else none
  else some (.brk 0 (x.1, x.2.1, ()))
def csG {α : Type} (l : List Bd1) (k : Int → Option α) (x : Int × Unit) : Option (LRes (Int × Unit) α) :=
  bif decide (x.1 < (l.length : Int)) then
    if 0 ≤ x.1 ∧ x.1 < (l.length : Int) then
      bif !(l.getD x.1.toNat b1D).1.o then
        bif !((l.getD x.1.toNat b1D).1.u == 0 && ((l.getD x.1.toNat b1D).1.v == 0 && true)) then finL (k x.1)
        else some (.cont (IntKind.i64.wrap (x.1 + 1), ()))
      else some (.cont (IntKind.i64.wrap (x.1 + 1), ()))
    else none
  else some (.brk 0 (x.1, ()))
set_option maxRecDepth 100000 in
theorem cstill_text (N n0 : Nat) (α : Type) (l : List BdI) (k : AOut → Option α) : evFn real tab ((twY fsC0 spG).env real tab N (n0 + 8)) N Tryz.f14 α [.ro (.recd (.cons (.int .i64) (.cons (.int .i64) (.cons (.recd (.cons (.recd (.cons (.int .i64) (.cons (.int .i64) .nil))) (.cons (.recd (.cons (.int .i64) (.cons (.int .i64) .nil))) (.cons (.int .i64) .nil)))) (.cons .bool .nil))))) l] k =
 bif sceE l != 0 then k (.ret (.tup [.bool false, iN (sceE l)])) else afterL (iterL N (csF l) ([], 0, ())) fun id y => if id = 0 then afterL (iterL N (csG y.1 fun i => k (.ret (.tup
 [.bool !decide (i ≥ 0), iN 0]))) (0, ())) fun id _ => if id = 0 then k (.ret (.tup [.bool !decide ((-1 : Int) ≥ 0), iN 0])) else none else none := by kernel_rfl
def w1 (b : BdI) : Bd1 := (b, ())
theorem cs_loop {α : Type} {l : List BdI} (h : l.length ≤ 20) (K : Nat → List Bd1 × Int × Unit → Option α) : afterL (iterL (l.length + 1) (csF l) ([], 0, ())) K = K 0 (l.map w1, (l.length : Int), ()) := by
  have hroom : room ≥ 10000 := by decide
  have e : l.map w1 = fmL (fun _ => true) w1 bdD l l.length := by rw [fmL_all, List.filter_eq_self.2 fun _ _ => rfl]
  rw [e]
  refine count_loop (f := csF l) (fun i : Nat => (fmL (fun _ => true) w1 bdD l i, (i : Int), ())) l.length (fun i hi => ?_) ?_ (by omega)
  · have hl := fmL_len (fun _ => true) w1 bdD l i
    unfold csF
    simp only [lt_len hi, cond_true, in_len hi, if_pos, and_self, decide_true, Int.toNat_natCast, wrap_next hi (by have : maxLen = 9223372036854775807 := rfl; omega), List.length_singleton]
    rw [if_pos (by omega)]
    rfl
  · unfold csF
    simp only [not_lt_len, cond_false]
theorem cs_any {α : Type} (l : List BdI) (h : l.length ≤ 20) (R : Bool → Option α) :
    afterL (iterL (l.length + 1) (csG (l.map w1) fun i => R !decide (i ≥ 0)) (0, ())) (fun id _ => if id = 0 then R (!decide ((-1 : Int) ≥ 0)) else none) = R !(l.any mvg) := by
  have hg : ∀ i, i < l.length → ((l.map w1).getD i b1D).1 = l.getD i bdD := fun i hi => by
    rw [List.getD_eq_getElem?_getD, List.getD_eq_getElem?_getD, List.getElem?_map, List.getElem?_eq_getElem hi]; rfl
  have hlm : (l.map w1).length = l.length := List.length_map _
  refine (any_loop (f := csG (l.map w1) fun i => R !decide (i ≥ 0)) (fun i : Nat => ((i : Int), ())) l.length (fun i => mvg (l.getD i bdD)) (R false) (fun i hi => ?_) (y := ((l.length : Int), ())) (b := 0) ?_).trans ?_
  · unfold csG
    simp only [hlm, lt_len hi, cond_true, in_len hi, if_pos, and_self, decide_true, Int.toNat_natCast, wrap_next hi (by have : maxLen = 9223372036854775807 := rfl; omega), hg i hi, mvg]
    have : decide ((i : Int) ≥ 0) = true := decide_eq_true (by omega)
    try rw [this]
    cases (l.getD i bdD).o <;> cases ((l.getD i bdD).u == 0 && ((l.getD i bdD).v == 0 && true)) <;> rfl
  · unfold csG
    simp only [hlm, not_lt_len, cond_false]
  · rw [any_rangeX]
    cases l.any mvg <;> rfl
theorem cstill_fin (l : List BdI) (hs : ∀ qSm ∈ ([.ro (.recd (.cons (.int .i64) (.cons (.int .i64) (.cons (.recd (.cons (.recd (.cons (.int .i64) (.cons (.int .i64) .nil))) (.cons (.recd (.cons (.int .i64) (.cons (.int .i64) .nil))) (.cons (.int .i64) .nil)))) (.cons .bool .nil))))) l] : List AVal), Sm qSm) : ∃ N n, ∀ α (k : AOut → Option α), evFn real tab ((twY fsC0 spG).env real tab N n) N Tryz.f14 α [.ro (.recd (.cons (.int .i64) (.cons (.int .i64) (.cons (.recd (.cons (.recd (.cons (.int .i64) (.cons (.int .i64) .nil))) (.cons (.recd (.cons (.int .i64) (.cons (.int .i64) .nil))) (.cons (.int .i64) .nil)))) (.cons .bool .nil))))) l] k = k (.ret (.tup [.bool (sceB l && !(l.any mvg)), iN (sceE l)])) := by
  refine ⟨l.length + 1, 8, fun α k => (cstill_text _ 0 α l k).trans ?_⟩
  rw [scnE_eq]
  cases h : sceB l
  · rfl
  · have hl := scn_len h
    refine (cs_loop (by omega) _).trans ?_
    exact cs_any l (by omega) fun b => k (.ret (.tup [.bool b, iN 0]))
noncomputable def cstillS : Fsp := fun _ args k => match args with
  | [.ro (.recd (.cons (.int .i64) (.cons (.int .i64) (.cons (.recd (.cons (.recd (.cons (.int .i64) (.cons (.int .i64) .nil))) (.cons (.recd (.cons (.int .i64) (.cons (.int .i64) .nil))) (.cons (.int .i64) .nil)))) (.cons .bool .nil))))) l] => k (.ret (.tup [.bool (sceB l && !(l.any mvg)), iN (sceE l)]))
  | _ => none
theorem cstillS_ok : FspOk Tryz.prog 14 cstillS := tower_Y fsC0_ok spG_ok ⟨Tryz.func14, fun _ _ => by kernel_rfl⟩ (by intro α args k; unfold cstillS; split <;> rfl) fun args out hSm hEq => by
  unfold cstillS at hEq
  split at hEq
  · rename_i l
    obtain ⟨N, n, e⟩ := cstill_fin l hSm
    exact ⟨N, n, (e AOut some).trans hEq⟩
  · cases hEq
/-! Stones. -/
def stOf (b : BdI) : StI := (b.1, b.2.1, (b.x, b.y, ()), ())
def ctF {α : Type} (l : List BdI) (x : List StI × Int × Unit) : Option (LRes (List StI × Int × Unit) α) :=
  bif decide (x.2.1 < (l.length : Int)) then
    if 0 ≤ x.2.1 ∧ x.2.1 < (l.length : Int) then
      bif !(l.getD x.2.1.toNat bdD).o then
        if (x.1.length + [stOf (l.getD x.2.1.toNat bdD)].length) * 32 ≤ room then some (.cont (x.1 ++ [stOf (l.getD x.2.1.toNat bdD)], IntKind.i64.wrap (x.2.1 + 1), ())) else none
      else some (.cont (x.1, IntKind.i64.wrap (x.2.1 + 1), ()))
    else none
  else some (.brk 0 (x.1, x.2.1, ()))
abbrev stO (l : List StI) (e : Int) : AOut := .ret (.tup [.ro (.recd (.cons (.int .i64) (.cons (.int .i64) (.cons (.recd (.cons (.int .i64) (.cons (.int .i64) .nil))) .nil)))) l, iN e])
set_option maxRecDepth 100000 in
theorem cstn_text (N n0 : Nat) (α : Type) (l : List BdI) (k : AOut → Option α) : evFn real tab ((twY fsC0 spG).env real tab N (n0 + 8)) N Tryz.f16 α [.ro (.recd (.cons (.int .i64) (.cons (.int .i64) (.cons (.recd (.cons (.recd (.cons (.int .i64) (.cons (.int .i64) .nil))) (.cons (.recd (.cons (.int .i64) (.cons (.int .i64) .nil))) (.cons (.int .i64) .nil)))) (.cons .bool .nil))))) l] k =
 bif sceE l != 0 then k (stO [] (sceE l)) else afterL (iterL N (ctF l) ([], 0, ())) fun id y => if id = 0 then k (stO y.1 0) else none := by kernel_rfl
def stnL (l : List BdI) : List StI := (l.filter fun b => !b.o).map stOf
theorem ct_loop {α : Type} {l : List BdI} (h : l.length ≤ 20) (K : Nat → List StI × Int × Unit → Option α) : afterL (iterL (l.length + 1) (ctF l) ([], 0, ())) K = K 0 (stnL l, (l.length : Int), ()) := by
  have hroom : room ≥ 10000 := by decide
  unfold stnL
  rw [← fmL_all (fun b => !b.o) stOf bdD]
  refine count_loop (f := ctF l) (fun i : Nat => (fmL (fun b : BdI => !b.o) stOf bdD l i, (i : Int), ())) l.length (fun i hi => ?_) ?_ (by omega)
  · have hl := fmL_len (fun b : BdI => !b.o) stOf bdD l i
    unfold ctF
    simp only [lt_len hi, cond_true, in_len hi, if_pos, and_self, decide_true, Int.toNat_natCast, wrap_next hi (by have : maxLen = 9223372036854775807 := rfl; omega), List.length_singleton, fmL]
    cases (l.getD i bdD).o
    · simp only [Bool.not_false, cond_true]
      rw [if_pos (by omega)]
    · rfl
  · unfold ctF
    simp only [not_lt_len, cond_false]
def selX {X : Type} (c : Bool) (l : List X) : List X := bif c then l else []
theorem cstn_fin (l : List BdI) (hs : ∀ qSm ∈ ([.ro (.recd (.cons (.int .i64) (.cons (.int .i64) (.cons (.recd (.cons (.recd (.cons (.int .i64) (.cons (.int .i64) .nil))) (.cons (.recd (.cons (.int .i64) (.cons (.int .i64) .nil))) (.cons (.int .i64) .nil)))) (.cons .bool .nil))))) l] : List AVal), Sm qSm) : ∃ N n, ∀ α (k : AOut → Option α), evFn real tab ((twY fsC0 spG).env real tab N n) N Tryz.f16 α [.ro (.recd (.cons (.int .i64) (.cons (.int .i64) (.cons (.recd (.cons (.recd (.cons (.int .i64) (.cons (.int .i64) .nil))) (.cons (.recd (.cons (.int .i64) (.cons (.int .i64) .nil))) (.cons (.int .i64) .nil)))) (.cons .bool .nil))))) l] k = k (stO (selX (sceB l) (stnL l)) (sceE l)) := by
  refine ⟨l.length + 1, 8, fun α k => (cstn_text _ 0 α l k).trans ?_⟩
  rw [scnE_eq]
  cases h : sceB l
  · rfl
  · have hl := scn_len h
    exact ct_loop (by omega) _
noncomputable def cstnS : Fsp := fun _ args k => match args with
  | [.ro (.recd (.cons (.int .i64) (.cons (.int .i64) (.cons (.recd (.cons (.recd (.cons (.int .i64) (.cons (.int .i64) .nil))) (.cons (.recd (.cons (.int .i64) (.cons (.int .i64) .nil))) (.cons (.int .i64) .nil)))) (.cons .bool .nil))))) l] => k (stO (selX (sceB l) (stnL l)) (sceE l))
  | _ => none
theorem cstnS_ok : FspOk Tryz.prog 16 cstnS := tower_Y fsC0_ok spG_ok ⟨Tryz.func16, fun _ _ => by kernel_rfl⟩ (by intro α args k; unfold cstnS; split <;> rfl) fun args out hSm hEq => by
  unfold cstnS at hEq
  split at hEq
  · rename_i l
    obtain ⟨N, n, e⟩ := cstn_fin l hSm
    exact ⟨N, n, (e AOut some).trans hEq⟩
  · cases hEq
/-! Place. -/
def bdSt (s : StI) : BdI := (s.1, s.2.1, ((s.2.2.1.1, s.2.2.1.2.1, ()), (0, 0, ()), 0, ()), false, ())
def cpF {α : Type} (l : List StI) (x : List BdI × Int × Unit) : Option (LRes (List BdI × Int × Unit) α) :=
  bif decide (x.2.1 < (l.length : Int)) then
    if 0 ≤ x.2.1 ∧ x.2.1 < (l.length : Int) then
      if (x.1.length + [bdSt (l.getD x.2.1.toNat stD)].length) * 64 ≤ room then some (.cont (x.1 ++ [bdSt (l.getD x.2.1.toNat stD)], IntKind.i64.wrap (x.2.1 + 1), ())) else none
    else none
  else some (.brk 0 (x.1, x.2.1, ()))
abbrev bdsO (l : List BdI) (e : Int) : AOut := .ret (.tup [.ro (.recd (.cons (.int .i64) (.cons (.int .i64) (.cons (.recd (.cons (.recd (.cons (.int .i64) (.cons (.int .i64) .nil))) (.cons (.recd (.cons (.int .i64) (.cons (.int .i64) .nil))) (.cons (.int .i64) .nil)))) (.cons .bool .nil))))) l, iN e])
set_option maxRecDepth 100000 in
theorem cplc_text (N n0 : Nat) (α : Type) (l : List StI) (k : AOut → Option α) : evFn real tab ((twY fsC0 spG).env real tab N (n0 + 8)) N Tryz.f18 α [.ro (.recd (.cons (.int .i64) (.cons (.int .i64) (.cons (.recd (.cons (.int .i64) (.cons (.int .i64) .nil))) .nil)))) l] k =
 bif decide ((l.length : Int) > 16) then k (bdsO [] 3) else afterL (iterL N (cpF l) ([], 0, ())) fun id y => if id = 0 then (bif sceE y.1 != 0 then k (bdsO [] (sceE y.1)) else k
 (bdsO y.1 0)) else none := by kernel_rfl
theorem cp_loop {α : Type} {l : List StI} (h : l.length ≤ 20) (K : Nat → List BdI × Int × Unit → Option α) : afterL (iterL (l.length + 1) (cpF l) ([], 0, ())) K = K 0 (l.map bdSt, (l.length : Int), ()) := by
  have hroom : room ≥ 10000 := by decide
  have e : l.map bdSt = fmL (fun _ => true) bdSt stD l l.length := by rw [fmL_all, List.filter_eq_self.2 fun _ _ => rfl]
  rw [e]
  refine count_loop (f := cpF l) (fun i : Nat => (fmL (fun _ => true) bdSt stD l i, (i : Int), ())) l.length (fun i hi => ?_) ?_ (by omega)
  · have hl := fmL_len (fun _ => true) bdSt stD l i
    unfold cpF
    simp only [lt_len hi, cond_true, in_len hi, if_pos, and_self, decide_true, Int.toNat_natCast, wrap_next hi (by have : maxLen = 9223372036854775807 := rfl; omega), List.length_singleton]
    rw [if_pos (by omega)]
    rfl
  · unfold cpF
    simp only [not_lt_len, cond_false]
def plcE (l : List StI) : Int := bif decide ((l.length : Int) > 16) then 3 else sceE (l.map bdSt)
theorem plcE_eq (l : List StI) : plcE l = bif decide ((l.length : Int) > 16) then 3 else bif sceB (l.map bdSt) then 0 else 2 := by
  unfold plcE; rw [scnE_eq]
theorem cplc_fin (l : List StI) (hs : ∀ qSm ∈ ([.ro (.recd (.cons (.int .i64) (.cons (.int .i64) (.cons (.recd (.cons (.int .i64) (.cons (.int .i64) .nil))) .nil)))) l] : List AVal), Sm qSm) : ∃ N n, ∀ α (k : AOut → Option α), evFn real tab ((twY fsC0 spG).env real tab N n) N Tryz.f18 α [.ro (.recd (.cons (.int .i64) (.cons (.int .i64) (.cons (.recd (.cons (.int .i64) (.cons (.int .i64) .nil))) .nil)))) l] k = k (bdsO (selX (plcE l == 0) (l.map bdSt)) (plcE l)) := by
  refine ⟨l.length + 1, 8, fun α k => (cplc_text _ 0 α l k).trans ?_⟩
  rw [plcE_eq]
  cases h : decide ((l.length : Int) > 16)
  · have hl := of_decide_eq_false h
    refine (cp_loop (by omega) _).trans ?_
    simp only [cond_false, scnE_eq, if_true]
    cases h : sceB (l.map bdSt) <;> rfl
  · rfl
noncomputable def cplcS : Fsp := fun _ args k => match args with
  | [.ro (.recd (.cons (.int .i64) (.cons (.int .i64) (.cons (.recd (.cons (.int .i64) (.cons (.int .i64) .nil))) .nil)))) l] => k (bdsO (selX (plcE l == 0) (l.map bdSt)) (plcE l))
  | _ => none
theorem cplcS_ok : FspOk Tryz.prog 18 cplcS := tower_Y fsC0_ok spG_ok ⟨Tryz.func18, fun _ _ => by kernel_rfl⟩ (by intro α args k; unfold cplcS; split <;> rfl) fun args out hSm hEq => by
  unfold cplcS at hEq
  split at hEq
  · rename_i l
    obtain ⟨N, n, e⟩ := cplc_fin l hSm
    exact ⟨N, n, (e AOut some).trans hEq⟩
  · cases hEq
end Go.Proofs.YteaadpgpihggeaaGreat

namespace Go.Proofs.YteaadpgpihggeaaGreat
end Go.Proofs.YteaadpgpihggeaaGreat

namespace Go.Proofs.YteaadpgpihggeaaGreat
/-! Products. -/
/-! Sums. -/
/-! Differences. -/
end Go.Proofs.YteaadpgpihggeaaGreat

namespace Go.Proofs.YteaadpgpihggeaaGreat
end Go.Proofs.YteaadpgpihggeaaGreat

namespace Go.Proofs.YteaadpgpihggeaaGreat
open Go.RowKit
def l1 (l : List Int) : AOut := .ret (.ro (.int .i64) l)
end Go.Proofs.YteaadpgpihggeaaGreat

namespace Go.Proofs.YteaadpgpihggeaaGreat
open Go.RowKit
/-! Sums. -/
section
variable {σ α : Type}
end
end Go.Proofs.YteaadpgpihggeaaGreat

namespace Go.Proofs.YteaadpgpihggeaaGreat
open Go.RowKit
def fnA : FuncId → Option Fsp := fun g =>
  none
theorem fnA_ok : FsOk fnA :=
  fs_nil
section
variable {α : Type}
end
/-! Products. -/
end Go.Proofs.YteaadpgpihggeaaGreat

namespace Go.Proofs.YteaadpgpihggeaaGreat
open Go.RowKit
def fnB : FuncId → Option Fsp := fun g =>
  fnA g
theorem fnB_ok : FsOk fnB :=
  fnA_ok
section
variable {α : Type} (N : Nat) (b R : List Int)
end
end Go.Proofs.YteaadpgpihggeaaGreat

namespace Go.Proofs.YteaadpgpihggeaaGreat
open Go.RowKit
def fnC : FuncId → Option Fsp := fun g =>
  fnB g
theorem fnC_ok : FsOk fnC :=
  fnB_ok
section
variable {α : Type}
end
def fnD : FuncId → Option Fsp := fun g =>
  fnC g
theorem fnD_ok : FsOk fnD :=
  fnC_ok
end Go.Proofs.YteaadpgpihggeaaGreat

namespace Go.Proofs.YteaadpgpihggeaaGreat
open Go.RowKit
/-! Shares. -/
section
variable {α : Type} (N : Nat) (X : Int) (a : List Int)
end
/-! Numbers with a sign. -/
end Go.Proofs.YteaadpgpihggeaaGreat

namespace Go.Proofs.YteaadpgpihggeaaGreat
open Go.RowKit
def fnE : FuncId → Option Fsp := fun g =>
  fnD g
theorem fnE_ok : FsOk fnE :=
  fnD_ok
def fnF : FuncId → Option Fsp := fun g =>
  fnE g
theorem fnF_ok : FsOk fnF :=
  fnE_ok
def fnG : FuncId → Option Fsp := fun g =>
  fnF g
theorem fnG_ok : FsOk fnG :=
  fnF_ok
def fnH : FuncId → Option Fsp := fun g =>
  fnG g
theorem fnH_ok : FsOk fnH :=
  fnG_ok
def fnI : FuncId → Option Fsp := fun g =>
  fnH g
theorem fnI_ok : FsOk fnI :=
  fnH_ok
noncomputable def fnJ : FuncId → Option Fsp := fun g =>
  fnI g
theorem fnJ_ok : FsOk fnJ :=
  fnI_ok
/-! Within. -/
/-! Unit. -/
end Go.Proofs.YteaadpgpihggeaaGreat

namespace Go.Proofs.YteaadpgpihggeaaGreat
open Go.RowKit
noncomputable def fnK : FuncId → Option Fsp := fun g =>
  fnJ g
theorem fnK_ok : FsOk fnK :=
  fnJ_ok
end Go.Proofs.YteaadpgpihggeaaGreat

namespace Go.Proofs.YteaadpgpihggeaaGreat
open Go.RowKit
/-! Products of spots. -/
end Go.Proofs.YteaadpgpihggeaaGreat

namespace Go.Proofs.YteaadpgpihggeaaGreat
open Go.RowKit
noncomputable def fnL : FuncId → Option Fsp := fun g =>
  fnK g
theorem fnL_ok : FsOk fnL :=
  fnK_ok
end Go.Proofs.YteaadpgpihggeaaGreat

namespace Go.Proofs.YteaadpgpihggeaaGreat
open Go.RowKit
noncomputable def fnM : FuncId → Option Fsp := fun g =>
  fnL g
theorem fnM_ok : FsOk fnM :=
  fnL_ok
end Go.Proofs.YteaadpgpihggeaaGreat

namespace Go.Proofs.YteaadpgpihggeaaGreat
open Go.RowKit
theorem and_k {α : Type} (a b : Bool) (k : AOut → Option α) : (bif a then k (b1 b) else k (b1 false)) = k (b1 (a && b)) := by cases a <;> rfl
def rbodB (t n x y sx sy sp : Int) : Bool := decide (0 ≤ t) && (decide (t ≤ 1) && (decide (0 ≤ n) && (decide (n ≤ 7) && (decide (sx ≥ -65536000) && (decide (sy ≥ -65536000) && (decide (sx ≤ 65536000) && (decide (sy ≤ 65536000) && (decide (x ≥ -6553600000) && (decide (x ≤ 6553600000) && (decide (y ≥ -6553600000) && (decide (y ≤ 6553600000) && (decide (-1000 ≤ sp) && decide (sp ≤ 1000)))))))))))))
def rbodyS : Fsp := fun _ args k => match args with
  | [.agg [.int .i64 t, .int .i64 n, .int .i64 x, .int .i64 y, .int .i64 sx, .int .i64 sy, .int .i64 sp, .bool _]] => k (b1 (rbodB t n x y sx sy sp))
  | _ => none
theorem rbody_text (N n0 : Nat) (α : Type) (t n x y sx sy sp : Int) (o : Bool) (k : AOut → Option α) : evFn real tab ((twT fnM (fun _ => none)).env real tab N (n0 + 4)) N Tryz.f82 α [.agg [iN t, iN n, iN x, iN y, iN sx, iN sy, iN sp, bN o]] k =
 bif decide (0 ≤ t) then bif decide (t ≤ 1) then bif decide (0 ≤ n) then bif decide (n ≤ 7) then bif decide (sx ≥ -65536000) then bif decide (sy ≥ -65536000) then bif decide (sx ≤
 65536000) then bif decide (sy ≤ 65536000) then bif decide (x ≥ -6553600000) then bif decide (x ≤ 6553600000) then bif decide (y ≥ -6553600000) then bif decide (y ≤ 6553600000) then
 bif decide (-1000 ≤ sp) then k (b1 (decide (sp ≤ 1000))) else k (b1 false) else k (b1 false) else k (b1 false) else k (b1 false) else k (b1 false) else k (b1 false) else k (b1
 false) else bif decide (sx ≤ 65536000) then k (b1 false) else k (b1 false) else bif decide (sy ≥ -65536000) then k (b1 false) else k (b1 false) else k (b1 false) else k (b1 false)
 else k (b1 false) else k (b1 false) := by kernel_rfl
theorem rbodyS_ok : FspOk Tryz.prog 82 rbodyS := tower_S fnM_ok sp_nil ⟨Tryz.func82, fun _ _ => by kernel_rfl⟩ (by intro α args k; unfold rbodyS; split <;> rfl) fun args out hs h => by
  unfold rbodyS at h
  split at h
  · rename_i t n x y sx sy sp o
    refine ⟨1, 4, (rbody_text 1 0 AOut t n x y sx sy sp o some).trans (Eq.trans ?_ h)⟩
    simp only [and_k, Bool.and_false]; rfl
  · cases h
end Go.Proofs.YteaadpgpihggeaaGreat

namespace Go.Proofs.YteaadpgpihggeaaGreat
open Go.RowKit
theorem rbod_eq (t n x y sx sy sp : Int) : rbodB t n x y sx sy sp = bodB t n x y sx sy sp := by
  rw [Bool.eq_iff_iff, bod_is]
  simp only [rbodB, Bool.and_eq_true, decide_eq_true_eq]
  exact ⟨fun h => by obtain ⟨a, b, c, d, e, f, g, h, i, j, k, l, m, n⟩ := h; exact ⟨⟨a, b⟩, ⟨c, d⟩, ⟨i, j⟩, ⟨k, l⟩, ⟨e, g⟩, ⟨f, h⟩, ⟨m, n⟩⟩, fun h => ⟨h.t.1, h.t.2, h.n.1, h.n.2, h.sx.1, h.sy.1, h.sx.2, h.sy.2, h.x.1, h.x.2, h.y.1, h.y.2, h.sp.1, h.sp.2⟩⟩
/-! A contact. -/
end Go.Proofs.YteaadpgpihggeaaGreat

namespace Go.Proofs.YteaadpgpihggeaaGreat
open Go.RowKit
noncomputable def fnR0 : FuncId → Option Fsp := fun g =>
  fnL g
theorem fnR0_ok : FsOk fnR0 :=
  fnL_ok
set_option maxRecDepth 100000 in
theorem rspot_text (N n0 : Nat) (α : Type) (x y : Int) (k : AOut → Option α) : evFn real tab ((twY fnR0 spL).env real tab N (n0 + 8)) N Tryz.f179 α [.agg [.int .i64 x, .int .i64 y]] k =
 bif decide (x ≥ -6553600000) then bif decide (x ≤ 6553600000) then bif decide (y ≥ -6553600000) then k (AOut.ret (AVal.bool (decide (y ≤ 6553600000)))) else k (AOut.ret (AVal.bool
 false)) else k (AOut.ret (AVal.bool false)) else k (AOut.ret (AVal.bool false)) := by kernel_rfl
theorem rspot_fin (x y : Int) (hs : ∀ qSm ∈ ([.agg [.int .i64 x, .int .i64 y]] : List AVal), Sm qSm) : ∃ N n, ∀ α (k : AOut → Option α), evFn real tab ((twY fnR0 spL).env real tab N n) N Tryz.f179 α [.agg [.int .i64 x, .int .i64 y]] k = k (b1 (plcB x y)) := by
  refine ⟨8, 8, fun α k => (rspot_text 8 0 α x y k).trans ?_⟩
  unfold plcB
  cases decide (-6553600000 ≤ x) <;> cases decide (x ≤ 6553600000) <;> cases decide (-6553600000 ≤ y) <;> rfl
noncomputable def rspotS : Fsp := fun _ args k => match args with
  | [.agg [.int .i64 x, .int .i64 y]] => k (b1 (plcB x y))
  | _ => none
theorem rspotS_ok : FspOk Tryz.prog 179 rspotS := tower_Y fnR0_ok spL_ok ⟨Tryz.func179, fun _ _ => by kernel_rfl⟩ (by intro α args k; unfold rspotS; split <;> rfl) fun args out hSm hEq => by
  unfold rspotS at hEq
  split at hEq
  · rename_i x y
    obtain ⟨N, n, e⟩ := rspot_fin x y hSm
    exact ⟨N, n, (e AOut some).trans hEq⟩
  · cases hEq
theorem ge_le (a b : Int) : decide (a ≥ b) = decide (b ≤ a) := rfl
noncomputable def fnR1 : FuncId → Option Fsp := fun g =>
  if g = 179 then some rspotS else
  fnR0 g
theorem fnR1_ok : FsOk fnR1 :=
  fs_cons rspotS_ok <|
  fnR0_ok
end Go.Proofs.YteaadpgpihggeaaGreat

namespace Go.Proofs.YteaadpgpihggeaaGreat
open Go.RowKit
section
variable {σ α : Type}
end
end Go.Proofs.YteaadpgpihggeaaGreat

namespace Go.Proofs.YteaadpgpihggeaaGreat
open Go.RowKit
end Go.Proofs.YteaadpgpihggeaaGreat

namespace Go.Proofs.YteaadpgpihggeaaGreat
open Go.RowKit
section
variable {α : Type}
end
end Go.Proofs.YteaadpgpihggeaaGreat

namespace Go.Proofs.YteaadpgpihggeaaGreat
open Go.RowKit
/-! Lists of numbers for which something holds. -/
end Go.Proofs.YteaadpgpihggeaaGreat

namespace Go.Proofs.YteaadpgpihggeaaGreat
open Go.RowKit
section
variable {α : Type}
end
end Go.Proofs.YteaadpgpihggeaaGreat

namespace Go.Proofs.YteaadpgpihggeaaGreat
open Go.RowKit
noncomputable def fnR2 : FuncId → Option Fsp := fun g =>
  fnR1 g
theorem fnR2_ok : FsOk fnR2 :=
  fnR1_ok
noncomputable def fnR3 : FuncId → Option Fsp := fun g =>
  fnR2 g
theorem fnR3_ok : FsOk fnR3 :=
  fnR2_ok
end Go.Proofs.YteaadpgpihggeaaGreat

namespace Go.Proofs.YteaadpgpihggeaaGreat
open Go.RowKit
set_option maxRecDepth 100000 in
theorem rmov_text (N n0 : Nat) (α : Type) (ax ay vx vy sp : Int) (k : AOut → Option α) : evFn real tab ((twY fnR3 spL).env real tab N (n0 + 8)) N Tryz.f136 α [.agg [.int .i64 ax, .int .i64 ay, .int .i64 vx, .int .i64 vy, .int .i64 sp]] k =
 bif decide (vx ≥ -65536000) then bif decide (vy ≥ -65536000) then bif decide (vx ≤ 65536000) then bif decide (vy ≤ 65536000) then bif plcB ax ay then bif decide (-1000 ≤ sp) then k
 (AOut.ret (AVal.bool (decide (sp ≤ 1000)))) else k (AOut.ret (AVal.bool false)) else k (AOut.ret (AVal.bool false)) else k (AOut.ret (AVal.bool false)) else k (AOut.ret (AVal.bool
 false)) else bif decide (vx ≤ 65536000) then k (AOut.ret (AVal.bool false)) else k (AOut.ret (AVal.bool false)) else bif decide (vy ≥ -65536000) then k (AOut.ret (AVal.bool false))
 else k (AOut.ret (AVal.bool false)) := by kernel_rfl
end Go.Proofs.YteaadpgpihggeaaGreat

namespace Go.Proofs.YteaadpgpihggeaaGreat
open Go.RowKit
theorem rmov_fin (ax ay vx vy sp : Int) (hs : ∀ qSm ∈ ([.agg [.int .i64 ax, .int .i64 ay, .int .i64 vx, .int .i64 vy, .int .i64 sp]] : List AVal), Sm qSm) : ∃ N n, ∀ α (k : AOut → Option α), evFn real tab ((twY fnR3 spL).env real tab N n) N Tryz.f136 α [.agg [.int .i64 ax, .int .i64 ay, .int .i64 vx, .int .i64 vy, .int .i64 sp]] k = k (b1 (movB ax ay vx vy sp)) := by
  refine ⟨8, 8, fun α k => (rmov_text 8 0 α ax ay vx vy sp k).trans ?_⟩
  unfold movB
  rw [ge_le, ge_le]
  cases plcB ax ay <;> cases decide (-65536000 ≤ vx) <;> cases decide (-65536000 ≤ vy) <;> cases decide (vx ≤ 65536000) <;> cases decide (vy ≤ 65536000) <;> cases decide (-1000 ≤ sp) <;> rfl
noncomputable def rmovS : Fsp := fun _ args k => match args with
  | [.agg [.int .i64 ax, .int .i64 ay, .int .i64 vx, .int .i64 vy, .int .i64 sp]] => k (b1 (movB ax ay vx vy sp))
  | _ => none
theorem rmovS_ok : FspOk Tryz.prog 136 rmovS := tower_Y fnR3_ok spL_ok ⟨Tryz.func136, fun _ _ => by kernel_rfl⟩ (by intro α args k; unfold rmovS; split <;> rfl) fun args out hSm hEq => by
  unfold rmovS at hEq
  split at hEq
  · rename_i ax ay vx vy sp
    obtain ⟨N, n, e⟩ := rmov_fin ax ay vx vy sp hSm
    exact ⟨N, n, (e AOut some).trans hEq⟩
  · cases hEq
noncomputable def fnRa : FuncId → Option Fsp := fun g =>
  if g = 136 then some rmovS else
  fnR3 g
theorem fnRa_ok : FsOk fnRa :=
  fs_cons rmovS_ok <|
  fnR3_ok
/-! Plain numbers. -/
/-! A tick of the reference. -/
noncomputable def fnRb : FuncId → Option Fsp := fun g =>
  fnRa g
theorem fnRb_ok : FsOk fnRb :=
  fnRa_ok
end Go.Proofs.YteaadpgpihggeaaGreat

namespace Go.Proofs.YteaadpgpihggeaaGreat
open Go.RowKit
noncomputable def fnRc : FuncId → Option Fsp := fun g =>
  fnRb g
theorem fnRc_ok : FsOk fnRc :=
  fnRb_ok
noncomputable def fnRd : FuncId → Option Fsp := fun g =>
  fnRc g
theorem fnRd_ok : FsOk fnRd :=
  fnRc_ok
end Go.Proofs.YteaadpgpihggeaaGreat

namespace Go.Proofs.YteaadpgpihggeaaGreat
open Go.RowKit
end Go.Proofs.YteaadpgpihggeaaGreat

namespace Go.Proofs.YteaadpgpihggeaaGreat
section
variable {α : Type}
theorem any_from {σ : Type} {f : σ → Option (LRes σ α)} (st : Nat → σ) (p : Nat → Bool) {R E : Option (LRes σ α)} (hR : ∀ y, R ≠ some (.cont y)) (hE : ∀ y, E ≠ some (.cont y)) (n : Nat) (h : ∀ i, i < n → f (st i) = bif p i then R else some (.cont (st (i + 1)))) (hend : f (st n) = E) :
    ∀ k m, m + k = n → ∀ N, k < N → iterL N f (st m) = bif (List.range' m k).any p then R else E
  | 0, m, hm, N, hN => by
    cases N with
    | zero => omega
    | succ N =>
      have : m = n := by omega
      subst this
      simp only [iterL, hend]
      simp only [List.range'_zero, List.any_nil, cond_false]
  | k + 1, m, hm, N, hN => by
    cases N with
    | zero => omega
    | succ N =>
      have hf := h m (by omega)
      have ih := any_from st p hR hE n h hend k (m + 1) (by omega) N (by omega)
      rw [List.range'_succ, List.any_cons]
      cases hp : p m
      · rw [hp] at hf
        rw [Bool.false_or, ← ih]
        conv => lhs; unfold iterL
        rw [hf]
        rfl
      · rw [hp] at hf
        simp only [iterL, hf, cond_true, Bool.true_or]
theorem any_loop' {σ : Type} {f : σ → Option (LRes σ α)} {K : Nat → σ → Option α} (st : Nat → σ) (n : Nat) (p : Nat → Bool) {b : Nat} {y : σ} (R : Option α) (h : ∀ i, i < n → f (st i) = bif p i then finL R else some (.cont (st (i + 1)))) (hend : f (st n) = some (.brk b y)) {N : Nat} (hN : n < N) : afterL (iterL N f (st 0)) K = bif (List.range n).any p then R else K b y := by
  rw [any_from st p (fin_not R) (brk_not b y) n h hend n 0 (by omega) N hN, ← List.range_eq_range']
  cases (List.range n).any p
  · rfl
  · cases R <;> rfl
end
end Go.Proofs.YteaadpgpihggeaaGreat
