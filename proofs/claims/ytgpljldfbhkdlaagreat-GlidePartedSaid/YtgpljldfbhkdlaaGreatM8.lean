/- Parts of the proof, in build order. -/
import Derived.Test.YtgpljldfbhkdlaaGreatM7
import Derived.Test.YtgpljldfbhkdlaaGreatM6
/- Contracts of package fixed: what other packages call. -/
namespace Go.Proofs.YtgpljldfbhkdlaaGreat
open Go.RowKit

/-! Closures that are called in regions that draw their order. -/
noncomputable def unit1S : Fsp := fun _ args k => match args with
  | [.int .i64 x, .int .i64 _, .rp [.int .u64 h, .int .u64 l]] => bif i6 x && shB (ab x) h l then k (i1 (sg (ngB x) (shr (ab x) (vw h l)))) else none
  | _ => none
theorem shr_in {x h l : Int} (hb : shB x h l = true) : 0 ≤ shr x (vw h l) ∧ shr x (vw h l) ≤ 65536 ∧ shrP x (vw h l) (shr x (vw h l)).toNat = true ∧ shrP x (vw h l) ((shr x (vw h l)).toNat + 1) = false := by
  simp only [shB, Bool.and_eq_true, decide_eq_true_eq] at hb
  obtain ⟨⟨⟨⟨x0, x1⟩, hh, hl⟩, hs0, hs⟩, hx⟩ := hb
  have a := bs_spec (shrP x (vw h l)) (fun m n => shr_anti (Int.le_of_lt hs0) m n) 17 0 (shr_zero x0) (shr_top hs0 hx _ (by decide))
  rw [shr_eq]
  refine ⟨by omega, ?_, a.1, a.2.1⟩
  rcases Nat.lt_or_ge (bs (shrP x (vw h l)) 17 0) 65537 with h | h
  · omega
  · have := shr_top hs0 hx _ h; rw [a.1] at this; cases this
theorem unit1_text (N n : Nat) (α : Type) (x y h l : Int) (k : AOut → Option α) : evFn real tab ((twT fsD spB).env real tab N (n + 2)) N Tryz.f152 α [iN x, iN y, .rp [uN h, uN l]] k =
    bif i6 x then
      bif shB (ab x) h l then
        bif wB (shr (ab x) (vw h l)) then fitK (decide (x < 0)) (shr (ab x) (vw h l)) k
        else none
      else none
    else none := by kernel_rfl
theorem unit1S_ok : FspOk Tryz.prog 152 unit1S := tower_S fsD_ok spB_ok ⟨Tryz.func152, fun _ _ => by kernel_rfl⟩ (by intro α args k; unfold unit1S; split <;> simp only [cond_bind, Option.bind_some, Option.bind_none]) fun args out hs h => by
  unfold unit1S at h
  split at h
  · rename_i x y h1 l
    refine ⟨8, 2, (unit1_text 8 0 AOut x y h1 l some).trans (Eq.trans ?_ h)⟩
    cases hx : i6 x
    · rw [hx] at h; cases h
    · cases hb : shB (ab x) h1 l
      · rfl
      · have a := shr_in hb
        simp only [wB_iff.2 (show Word (shr (ab x) (vw h1 l)) from ⟨a.1, by omega⟩), fitK, fxB, decide_eq_true (show shr (ab x) (vw h1 l) ≤ 70368744177664 by omega), Bool.and_self, cond_true]
        rfl
  · cases h

def times2S : Fsp := fun _ args k => match args with
  | [.int .i64 x, .int .i64 _, .rp [.int .i64 b], .rp [.fn g []]] =>
    match howOf g with
    | some how => bif okB x && okB b then fitK (xorB (ngB x) (ngB b)) (prP x b how) k else k (mis fxm 2)
    | none => none
  | _ => none
def times2Text {α : Type} (x b how : Int) (k : AOut → Option α) : Option α := bif okB x && okB b then fitK (xorB (ngB x) (ngB b)) (prP x b how) k else k (mis fxm 2)
theorem times20_text (N n : Nat) (α : Type) (x y b : Int) (k : AOut → Option α) : evFn real tab ((twT fsD spB).env real tab N (n + 2)) N Tryz.f156 α [iN x, iN y, .rp [iN b], .rp [.fn 107 []]] k = times2Text x b 0 k := by kernel_rfl
theorem times21_text (N n : Nat) (α : Type) (x y b : Int) (k : AOut → Option α) : evFn real tab ((twT fsD spB).env real tab N (n + 2)) N Tryz.f156 α [iN x, iN y, .rp [iN b], .rp [.fn 108 []]] k = times2Text x b 1 k := by kernel_rfl
theorem times22_text (N n : Nat) (α : Type) (x y b : Int) (k : AOut → Option α) : evFn real tab ((twT fsD spB).env real tab N (n + 2)) N Tryz.f156 α [iN x, iN y, .rp [iN b], .rp [.fn 109 []]] k = times2Text x b 2 k := by kernel_rfl
theorem times23_text (N n : Nat) (α : Type) (x y b : Int) (k : AOut → Option α) : evFn real tab ((twT fsD spB).env real tab N (n + 2)) N Tryz.f156 α [iN x, iN y, .rp [iN b], .rp [.fn 110 []]] k = times2Text x b 3 k := by kernel_rfl
theorem times2S_ok : FspOk Tryz.prog 156 times2S := tower_S fsD_ok spB_ok ⟨Tryz.func156, fun _ _ => by kernel_rfl⟩ (by intro α args k; unfold times2S; split <;> (try split) <;> simp only [cond_bind, fitK_bind, Option.bind_some, Option.bind_none]) fun args out hs h => by
  unfold times2S at h
  split at h
  · rename_i x y b g
    split at h
    · rename_i how hg
      rcases how_cases hg with hf | ⟨rfl, rfl⟩ | ⟨rfl, rfl⟩ | ⟨rfl, rfl⟩ | ⟨rfl, rfl⟩
      · cases hf
      · exact ⟨8, 2, (times20_text 8 0 AOut x y b some).trans h⟩
      · exact ⟨8, 2, (times21_text 8 0 AOut x y b some).trans h⟩
      · exact ⟨8, 2, (times22_text 8 0 AOut x y b some).trans h⟩
      · exact ⟨8, 2, (times23_text 8 0 AOut x y b some).trans h⟩
    · cases h
  · cases h

noncomputable def fsE : FuncId → Option Fsp := fun g =>
  if g = 152 then some unit1S else
  if g = 156 then some times2S else
  fsD g
theorem fsE_ok : FsOk fsE :=
  fs_cons unit1S_ok <|
  fs_cons times2S_ok <|
  fsD_ok

/-! Sums and differences of spots. -/
def two2 (p q : Int) (ok : Bool) : Int × Int × Int := bif ok then (bif fxB (ab p) && fxB (ab q) then (p, q, 0) else (0, 0, 4)) else (0, 0, 2)
def plP (x y u v : Int) : Int × Int × Int := two2 (x + u) (y + v) (four x y u v)
def miP (x y u v : Int) : Int × Int × Int := two2 (x - u) (y - v) (four x y u v)
def plX (x y u v : Int) : Int := (plP x y u v).1
def plY (x y u v : Int) : Int := (plP x y u v).2.1
def plE (x y u v : Int) : Int := (plP x y u v).2.2
def miX (x y u v : Int) : Int := (miP x y u v).1
def miY (x y u v : Int) : Int := (miP x y u v).2.1
def miE (x y u v : Int) : Int := (miP x y u v).2.2
def plusPS : Fsp := fun _ args k => match args with
  | [.agg [.int .i64 x, .int .i64 y], .agg [.int .i64 u, .int .i64 v]] => k (s2 (plX x y u v) (plY x y u v) (plE x y u v))
  | _ => none
def minusPS : Fsp := fun _ args k => match args with
  | [.agg [.int .i64 x, .int .i64 y], .agg [.int .i64 u, .int .i64 v]] => k (s2 (miX x y u v) (miY x y u v) (miE x y u v))
  | _ => none
def twoText {α : Type} (x y u v p q : Int) (k : AOut → Option α) : Option α :=
  bif [x, y, u, v].all okB then
    bif okB x && okB u then
      bif fxB (ab p) then
        bif okB y && okB v then
          bif fxB (ab q) then k (s2 p q 0) else k (s2 0 0 4)
        else k (s2 0 0 2)
      else k (s2 0 0 4)
    else k (s2 0 0 2)
  else k (s2 0 0 2)
theorem two_fin {α : Type} (x y u v p q : Int) (k : AOut → Option α) : twoText x y u v p q k = k (s2 (two2 p q (four x y u v)).1 (two2 p q (four x y u v)).2.1 (two2 p q (four x y u v)).2.2) := by
  unfold twoText two2 four
  rw [all4]
  cases okB x <;> cases okB y <;> cases okB u <;> cases okB v <;> cases fxB (ab p) <;> cases fxB (ab q) <;> rfl
theorem plusP_text (N n : Nat) (α : Type) (x y u v : Int) (k : AOut → Option α) : evFn real tab ((twT fsE spB).env real tab N (n + 6)) N Tryz.f96 α [sN x y, sN u v] k = twoText x y u v (x + u) (y + v) k := by kernel_rfl
theorem plusPS_ok : FspOk Tryz.prog 96 plusPS := tower_S fsE_ok spB_ok ⟨Tryz.func96, fun _ _ => by kernel_rfl⟩ (by intro α args k; unfold plusPS; split <;> rfl) fun args out hs h => by
  unfold plusPS at h
  split at h
  · rename_i x y u v
    exact ⟨8, 6, (plusP_text 8 0 AOut x y u v some).trans ((two_fin ..).trans h)⟩
  · cases h
theorem minusP_text (N n : Nat) (α : Type) (x y u v : Int) (k : AOut → Option α) : evFn real tab ((twT fsE spB).env real tab N (n + 6)) N Tryz.f97 α [sN x y, sN u v] k = twoText x y u v (x - u) (y - v) k := by kernel_rfl
theorem minusPS_ok : FspOk Tryz.prog 97 minusPS := tower_S fsE_ok spB_ok ⟨Tryz.func97, fun _ _ => by kernel_rfl⟩ (by intro α args k; unfold minusPS; split <;> rfl) fun args out hs h => by
  unfold minusPS at h
  split at h
  · rename_i x y u v
    exact ⟨8, 6, (minusP_text 8 0 AOut x y u v some).trans ((two_fin ..).trans h)⟩
  · cases h

/-! Within. -/
def within1S : Fsp := fun _ args k => match args with
  | [.agg [.int .i64 x, .int .i64 y], .int .i64 r] => k (b2 (witV x y r) (witE x y r))
  | _ => none
theorem cmp3_le (a b : Int) : decide (cmp3 a b ≤ 0) = decide (a ≤ b) := by
  rw [decide_eq_decide]; unfold cmp3; repeat' split
  all_goals omega
theorem sq2_in {x y : Int} (hx : okB x = true) (hy : okB y = true) : 0 ≤ sq2 x y ∧ sq2 x y ≤ 9903520314283042199192993792 := by
  have a := ab_mul_in hx hx
  have b := ab_mul_in hy hy
  unfold sq2; omega
theorem ab_sq (x : Int) : ab x * ab x = x * x := by unfold ab; split; exact Int.neg_mul_neg x x; rfl

/-! Unit. -/
noncomputable def uniS : Fsp := fun _ args k => match args with
  | [.agg [.int .i64 x, .int .i64 y]] => k (s2 (uniV x y x) (uniV x y y) (uniE x y))
  | _ => none
theorem hl_zero (n : Int) : (!!(hiW n == 0 && (loW n == 0 && true))) = (n == 0) := by
  have e := hiW_loW n
  rw [Bool.not_not, Bool.and_true]
  by_cases h : n = 0
  · subst h; rfl
  · rw [beq_eq_false_iff_ne.2 h]
    by_cases h1 : hiW n = 0
    · rw [beq_iff_eq.2 h1, beq_eq_false_iff_ne.2 (show loW n ≠ 0 by omega)]; rfl
    · rw [beq_eq_false_iff_ne.2 h1]; rfl
theorem shB_of {x y : Int} (hx : okB x = true) (hy : okB y = true) (hz : sq2 x y ≠ 0) : shB (ab x) (hiW (sq2 x y)) (loW (sq2 x y)) = true ∧ shB (ab y) (hiW (sq2 x y)) (loW (sq2 x y)) = true := by
  have a := ab_mul_in hx hx
  have b := ab_mul_in hy hy
  have s := sq2_in hx hy
  have hw := hi_wB (show 0 ≤ sq2 x y ∧ sq2 x y < _ from ⟨s.1, by omega⟩)
  have e1 : ab x * ab x ≤ sq2 x y := by unfold sq2; omega
  have e2 : ab y * ab y ≤ sq2 x y := by unfold sq2; omega
  simp only [shB, hw, lo_wB, vw_hl, decide_eq_true (ab_nn x), decide_eq_true (ab_nn y), decide_eq_true (ok_ab hx), decide_eq_true (ok_ab hy), decide_eq_true (show 0 < sq2 x y by omega), decide_eq_true (show sq2 x y < 19807040628566084398385987584 by omega), decide_eq_true e1, decide_eq_true e2, Bool.and_self]
  trivial
theorem unit_text (N n : Nat) (α : Type) (x y : Int) (k : AOut → Option α) : evFn real tab ((twT fsE spB).env real tab N (n + 6)) N Tryz.f92 α [sN x y] k =
    bif okB x && okB y then
      bif !!(hiW (sq2 x y) == 0 && (loW (sq2 x y) == 0 && true)) then k (s2 0 0 10)
      else
        bif [x, y, x, y].all okB then
          bif i6 x && shB (ab x) (hiW (sq2 x y)) (loW (sq2 x y)) then
            bif i6 y && shB (ab y) (hiW (sq2 x y)) (loW (sq2 x y)) then
              k (s2 (sg (ngB x) (shr (ab x) (vw (hiW (sq2 x y)) (loW (sq2 x y))))) (sg (ngB y) (shr (ab y) (vw (hiW (sq2 x y)) (loW (sq2 x y))))) 0)
            else none
          else none
        else k (s2 0 0 0)
    else k (s2 0 0 2) := by kernel_rfl
theorem uniS_ok : FspOk Tryz.prog 92 uniS := tower_S fsE_ok spB_ok ⟨Tryz.func92, fun _ _ => by kernel_rfl⟩ (by intro α args k; unfold uniS; split <;> rfl) fun args out hs h => by
  unfold uniS at h
  split at h
  · rename_i x y
    refine ⟨8, 6, (unit_text 8 0 AOut x y some).trans (Eq.trans ?_ h)⟩
    unfold uniV uniE uniB
    rw [all4, hl_zero]
    cases hx : okB x
    · rfl
    · cases hy : okB y
      · rfl
      · cases hz : sq2 x y == 0
        · obtain ⟨a, b⟩ := shB_of hx hy (beq_eq_false_iff_ne.1 hz)
          simp only [i6_ok hx, i6_ok hy, a, b, vw_hl, Bool.and_self, cond_true, cond_false]
        · rfl
  · cases h
end Go.Proofs.YtgpljldfbhkdlaaGreat

/- Contracts of package fixed: what other packages call, with a way of rounding. -/
namespace Go.Proofs.YtgpljldfbhkdlaaGreat
open Go.RowKit

def fitT {α : Type} (neg : Bool) (n : Int) (k : AOut → Option α) : Option α := bif fxB n then k (i2 (sg neg n) 0) else k (i2 0 4)
theorem fitT_eq {α : Type} (neg : Bool) (n : Int) (k : AOut → Option α) : fitT neg n k = k (i2 (fxV neg n) (fxE n)) := by
  unfold fitT fxV fxE; cases fxB n <;> rfl

/-! Times. -/
def tiOk (x y b : Int) : Bool := okB x && okB y && okB b
def tiFit (x y b how : Int) : Bool := fxB (prP x b how) && fxB (prP y b how)
def tiV (x y b how c : Int) : Int := bif tiOk x y b && tiFit x y b how then sg (xorB (ngB c) (ngB b)) (prP c b how) else 0
def tiE (x y b how : Int) : Int := bif tiOk x y b then (bif tiFit x y b how then 0 else 4) else 2
def timesS : Fsp := fun _ args k => match args with
  | [.agg [.int .i64 x, .int .i64 y], .int .i64 b, .int .i64 how] => bif wayB how then k (s2 (tiV x y b how x) (tiV x y b how y) (tiE x y b how)) else none
  | _ => none
def timesText {α : Type} (x y b how : Int) (k : AOut → Option α) : Option α :=
  bif [x, y, b].all okB then
    bif [x, y, x, y].all okB then
      bif okB x && okB b then
        bif fxB (prP x b how) then
          bif okB y && okB b then
            bif fxB (prP y b how) then k (s2 (sg (xorB (ngB x) (ngB b)) (prP x b how)) (sg (xorB (ngB y) (ngB b)) (prP y b how)) 0)
            else k (s2 0 0 4)
          else k (s2 0 0 2)
        else k (s2 0 0 4)
      else k (s2 0 0 2)
    else k (s2 0 0 2)
  else k (s2 0 0 2)
theorem times_fin {α : Type} (x y b how : Int) (k : AOut → Option α) : timesText x y b how k = k (s2 (tiV x y b how x) (tiV x y b how y) (tiE x y b how)) := by
  unfold timesText tiV tiE tiOk tiFit
  rw [all3, all4]
  cases okB x <;> cases okB y <;> cases okB b <;> cases fxB (prP x b how) <;> cases fxB (prP y b how) <;> rfl
theorem times0_text (N n : Nat) (α : Type) (x y b : Int) (k : AOut → Option α) : evFn real tab ((twT fsE spB).env real tab N (n + 6)) N Tryz.f93 α [sN x y, iN b, iN 0] k = timesText x y b 0 k := by kernel_rfl
theorem times1_text (N n : Nat) (α : Type) (x y b : Int) (k : AOut → Option α) : evFn real tab ((twT fsE spB).env real tab N (n + 6)) N Tryz.f93 α [sN x y, iN b, iN 1] k = timesText x y b 1 k := by kernel_rfl
theorem times2_text (N n : Nat) (α : Type) (x y b : Int) (k : AOut → Option α) : evFn real tab ((twT fsE spB).env real tab N (n + 6)) N Tryz.f93 α [sN x y, iN b, iN 2] k = timesText x y b 2 k := by kernel_rfl
theorem times3_text (N n : Nat) (α : Type) (x y b : Int) (k : AOut → Option α) : evFn real tab ((twT fsE spB).env real tab N (n + 6)) N Tryz.f93 α [sN x y, iN b, iN 3] k = timesText x y b 3 k := by kernel_rfl
theorem timesS_ok : FspOk Tryz.prog 93 timesS := tower_S fsE_ok spB_ok ⟨Tryz.func93, fun _ _ => by kernel_rfl⟩ (by intro α args k; unfold timesS; split <;> simp only [cond_bind, Option.bind_some, Option.bind_none]) fun args out hs h => by
  unfold timesS at h
  split at h
  · rename_i x y b how
    cases hw : wayB how
    · rw [hw] at h; cases h
    · rw [hw, cond_true] at h
      rcases way_cases hw with rfl | rfl | rfl | rfl
      · exact ⟨8, 6, (times0_text 8 0 AOut x y b some).trans ((times_fin ..).trans h)⟩
      · exact ⟨8, 6, (times1_text 8 0 AOut x y b some).trans ((times_fin ..).trans h)⟩
      · exact ⟨8, 6, (times2_text 8 0 AOut x y b some).trans ((times_fin ..).trans h)⟩
      · exact ⟨8, 6, (times3_text 8 0 AOut x y b some).trans ((times_fin ..).trans h)⟩
  · cases h

/-! Dot. -/
def dtP (s how : Int) : Int := rndP how (ngB s) (ab s) 65536
def dtV (x y u v how : Int) : Int := bif four x y u v then fxV (ngB (dotS x y u v)) (dtP (dotS x y u v) how) else 0
def dtE (x y u v how : Int) : Int := bif four x y u v then fxE (dtP (dotS x y u v) how) else 2
def dotPS : Fsp := fun _ args k => match args with
  | [.agg [.int .i64 x, .int .i64 y], .agg [.int .i64 u, .int .i64 v], .int .i64 how] => bif wayB how then k (i2 (dtV x y u v how) (dtE x y u v how)) else none
  | _ => none
def dotText {α : Type} (x u v w how : Int) (k : AOut → Option α) : Option α :=
  bif [x, u, v, w].all okB then
    bif i6 x then
      bif i6 v then
        bif wB (ab x) && wB (ab v) then
          bif i6 u then
            bif i6 w then
              bif wB (ab u) && wB (ab w) then
                bif (!(decide (x < 0) == decide (v < 0))) == (!(decide (u < 0) == decide (w < 0))) then
                  bif wB (hiW (ab x * ab v)) && wB (loW (ab x * ab v)) && wB (hiW (ab u * ab w)) && wB (loW (ab u * ab w)) && decide (vw (hiW (ab x * ab v)) (loW (ab x * ab v)) + vw (hiW (ab u * ab w)) (loW (ab u * ab w)) < 340282366920938463463374607431768211456) then
                    bif wB (hiW (vw (hiW (ab x * ab v)) (loW (ab x * ab v)) + vw (hiW (ab u * ab w)) (loW (ab u * ab w)))) && wB (loW (vw (hiW (ab x * ab v)) (loW (ab x * ab v)) + vw (hiW (ab u * ab w)) (loW (ab u * ab w)))) && wB 65536 && decide ((0 : Int) < 65536) then
                      fitT (!(decide (x < 0) == decide (v < 0))) (rndP how (!(decide (x < 0) == decide (v < 0))) (vw (hiW (vw (hiW (ab x * ab v)) (loW (ab x * ab v)) + vw (hiW (ab u * ab w)) (loW (ab u * ab w)))) (loW (vw (hiW (ab x * ab v)) (loW (ab x * ab v)) + vw (hiW (ab u * ab w)) (loW (ab u * ab w))))) 65536) k
                    else none
                  else none
                else
                  bif wB (loW (ab x * ab v)) && wB (loW (ab u * ab w)) then
                    bif decide (cmp3 (vw (hiW (ab x * ab v)) (loW (ab x * ab v))) (vw (hiW (ab u * ab w)) (loW (ab u * ab w))) ≥ 0) then
                      bif wB (hiW (ab x * ab v)) && wB (loW (ab x * ab v)) && wB (hiW (ab u * ab w)) && wB (loW (ab u * ab w)) && decide (vw (hiW (ab u * ab w)) (loW (ab u * ab w)) ≤ vw (hiW (ab x * ab v)) (loW (ab x * ab v))) then
                        bif wB (hiW (vw (hiW (ab x * ab v)) (loW (ab x * ab v)) - vw (hiW (ab u * ab w)) (loW (ab u * ab w)))) && wB (loW (vw (hiW (ab x * ab v)) (loW (ab x * ab v)) - vw (hiW (ab u * ab w)) (loW (ab u * ab w)))) && wB 65536 && decide ((0 : Int) < 65536) then
                          fitT (!(decide (x < 0) == decide (v < 0))) (rndP how (!(decide (x < 0) == decide (v < 0))) (vw (hiW (vw (hiW (ab x * ab v)) (loW (ab x * ab v)) - vw (hiW (ab u * ab w)) (loW (ab u * ab w)))) (loW (vw (hiW (ab x * ab v)) (loW (ab x * ab v)) - vw (hiW (ab u * ab w)) (loW (ab u * ab w))))) 65536) k
                        else none
                      else none
                    else
                      bif wB (hiW (ab u * ab w)) && wB (loW (ab u * ab w)) && wB (hiW (ab x * ab v)) && wB (loW (ab x * ab v)) && decide (vw (hiW (ab x * ab v)) (loW (ab x * ab v)) ≤ vw (hiW (ab u * ab w)) (loW (ab u * ab w))) then
                        bif wB (hiW (vw (hiW (ab u * ab w)) (loW (ab u * ab w)) - vw (hiW (ab x * ab v)) (loW (ab x * ab v)))) && wB (loW (vw (hiW (ab u * ab w)) (loW (ab u * ab w)) - vw (hiW (ab x * ab v)) (loW (ab x * ab v)))) && wB 65536 && decide ((0 : Int) < 65536) then
                          fitT (!(decide (u < 0) == decide (w < 0))) (rndP how (!(decide (u < 0) == decide (w < 0))) (vw (hiW (vw (hiW (ab u * ab w)) (loW (ab u * ab w)) - vw (hiW (ab x * ab v)) (loW (ab x * ab v)))) (loW (vw (hiW (ab u * ab w)) (loW (ab u * ab w)) - vw (hiW (ab x * ab v)) (loW (ab x * ab v))))) 65536) k
                        else none
                      else none
                  else none
              else none
            else none
          else none
        else none
      else none
    else none
  else k (i2 0 2)
theorem mul_sg (a b : Int) : a * b = sg (xorB (ngB a) (ngB b)) (ab a * ab b) := by
  unfold sg xorB ngB ab
  by_cases h1 : a < 0 <;> by_cases h2 : b < 0 <;> simp [h1, h2, Int.neg_mul, Int.mul_neg]
theorem rnd0 (how : Int) (neg : Bool) : rndP how neg 0 65536 = 0 := by
  unfold rndP rnd up1; simp
theorem fit_sign {α : Type} {s N how : Int} {neg : Bool} (hs : s = sg neg N) (hN : 0 ≤ N) (k : AOut → Option α) : fitT neg (rndP how neg N 65536) k = k (i2 (fxV (ngB s) (dtP s how)) (fxE (dtP s how))) := by
  rw [fitT_eq]
  unfold dtP
  rcases Int.lt_or_eq_of_le hN with h | h
  · have e1 : ngB s = neg ∧ ab s = N := by
      subst hs; unfold ngB ab sg
      cases neg
      · simp only [cond_false]; rw [decide_eq_false (by omega), if_neg (by omega)]; exact ⟨rfl, rfl⟩
      · simp only [cond_true]; rw [decide_eq_true (by omega), if_pos (by omega)]; exact ⟨rfl, by omega⟩
    rw [e1.1, e1.2]
  · subst h
    have e : s = 0 := by subst hs; cases neg <;> rfl
    subst e
    rw [show ab 0 = 0 from rfl, rnd0, rnd0]
    cases neg <;> rfl
theorem dot_fin {α : Type} (x u v w how : Int) (k : AOut → Option α) : dotText x u v w how k = k (i2 (dtV x u v w how) (dtE x u v w how)) := by
  unfold dotText dtV dtE four
  rw [all4]
  cases hx : okB x
  · rfl
  · cases hu : okB u
    · rfl
    · cases hv : okB v
      · rfl
      · cases hw : okB w
        · rfl
        · have p := ab_mul_in hx hv
          have q := ab_mul_in hu hw
          have e1 := mul_sg x v
          have e2 := mul_sg u w
          simp only [i6_ok hx, i6_ok hu, i6_ok hv, i6_ok hw, wB_ab (i6_ok hx), wB_ab (i6_ok hu), wB_ab (i6_ok hv), wB_ab (i6_ok hw), lo_wB, vw_hl, hi_wB (show 0 ≤ ab x * ab v ∧ ab x * ab v < _ from ⟨p.1, by omega⟩), hi_wB (show 0 ≤ ab u * ab w ∧ ab u * ab w < _ from ⟨q.1, by omega⟩), Bool.and_self, cond_true, show wB 65536 = true from rfl, show decide ((0 : Int) < 65536) = true from rfl, Bool.true_and]
          have e3 : dotS x u v w = x * v + u * w := rfl
          have g1 : (!(decide (x < 0) == decide (v < 0))) = xorB (ngB x) (ngB v) := rfl
          have g2 : (!(decide (u < 0) == decide (w < 0))) = xorB (ngB u) (ngB w) := rfl
          rw [g1, g2]
          generalize xorB (ngB x) (ngB v) = m at *
          generalize xorB (ngB u) (ngB w) = n at *
          generalize ab x * ab v = P at *
          generalize ab u * ab w = Q at *
          rw [e1, e2] at e3
          generalize dotS x u v w = s at *
          by_cases hmn : m = n
          · subst hmn
            rw [beq_self_eq_true, cond_true, decide_eq_true (show P + Q < 340282366920938463463374607431768211456 by omega), hi_wB (show 0 ≤ P + Q ∧ P + Q < _ from ⟨by omega, by omega⟩)]
            simp only [Bool.and_self, cond_true]
            exact fit_sign (by rw [e3]; cases m <;> simp [sg]; omega) (by omega) k
          · rw [beq_eq_false_iff_ne.2 hmn, cond_false]
            have hn : n = !m := by cases m <;> cases n <;> simp at hmn ⊢
            subst hn
            by_cases hc : Q ≤ P
            · rw [decide_eq_true (show cmp3 P Q ≥ 0 by unfold cmp3; repeat' split
                                                       all_goals omega), decide_eq_true hc, hi_wB (show 0 ≤ P - Q ∧ P - Q < _ from ⟨by omega, by omega⟩)]
              simp only [Bool.and_self, cond_true]
              exact fit_sign (by rw [e3]; cases m <;> simp [sg] <;> omega) (by omega) k
            · rw [decide_eq_false (show ¬ cmp3 P Q ≥ 0 by unfold cmp3; repeat' split
                                                          all_goals omega), decide_eq_true (show P ≤ Q by omega), hi_wB (show 0 ≤ Q - P ∧ Q - P < _ from ⟨by omega, by omega⟩)]
              simp only [Bool.and_self, cond_true, cond_false]
              exact fit_sign (by rw [e3]; cases m <;> simp [sg] <;> omega) (by omega) k

/-! Scale. -/
def slP (a n d how : Int) : Int := rndP how (scG a n d) (ab a * ab n) (ab d)
def slOk (a n d : Int) : Bool := okB a && (rateB n && rateB d)
def slV (a n d how : Int) : Int := bif slOk a n d then (bif d == 0 then 0 else fxV (scG a n d) (slP a n d how)) else 0
def slE (a n d how : Int) : Int := bif slOk a n d then (bif d == 0 then 10 else fxE (slP a n d how)) else 2
def scaleS : Fsp := fun _ args k => match args with
  | [.int .i64 a, .int .i64 n, .int .i64 d, .int .i64 how] => bif wayB how then k (i2 (slV a n d how) (slE a n d how)) else none
  | _ => none
def scaleText {α : Type} (x u v how : Int) (k : AOut → Option α) : Option α :=
  bif [x].all okB then
    bif decide (u ≥ -2147483648) then
      bif decide (u ≤ 2147483648) then
        bif decide (v ≥ -2147483648) then
          bif !(decide (v ≤ 2147483648)) then k (i2 0 2)
          else
            bif !(v != 0) then k (i2 0 10)
            else
              bif i6 x then
                bif i6 u then
                  bif wB (ab x) && wB (ab u) then
                    bif i6 v then
                      bif wB (hiW (ab x * ab u)) && wB (loW (ab x * ab u)) && wB (ab v) && decide (0 < ab v) then
                        fitT (!(decide (x < 0) == !(decide (u < 0) == decide (v < 0)))) (rndP how (!(decide (x < 0) == !(decide (u < 0) == decide (v < 0)))) (vw (hiW (ab x * ab u)) (loW (ab x * ab u))) (ab v)) k
                      else none
                    else none
                  else none
                else none
              else none
        else k (i2 0 2)
      else k (i2 0 2)
    else k (i2 0 2)
  else k (i2 0 2)
theorem rate_ok {n : Int} (h : rateB n = true) : okB n = true := by rw [rate_iff] at h; rw [ok_iff]; omega
theorem scale_fin {α : Type} (x u v how : Int) (k : AOut → Option α) : scaleText x u v how k = k (i2 (slV x u v how) (slE x u v how)) := by
  unfold scaleText slV slE slOk
  rw [all1]
  cases hx : okB x
  · rfl
  · have r1 : rateB u = (decide (u ≥ -2147483648) && decide (u ≤ 2147483648)) := rfl
    have r2 : rateB v = (decide (v ≥ -2147483648) && decide (v ≤ 2147483648)) := rfl
    cases hu : rateB u
    · rw [hu] at r1
      cases h1 : decide (u ≥ -2147483648)
      · rfl
      · rw [h1, Bool.true_and] at r1
        rw [← r1]; rfl
    · rw [hu] at r1
      have r1 := Bool.and_eq_true_iff.1 r1.symm
      rw [r1.1, r1.2]
      cases hv : rateB v
      · rw [hv] at r2
        cases h1 : decide (v ≥ -2147483648)
        · rfl
        · rw [h1, Bool.true_and] at r2
          rw [← r2]; rfl
      · rw [hv] at r2
        have r2 := Bool.and_eq_true_iff.1 r2.symm
        rw [r2.1, r2.2]
        by_cases hz : v = 0
        · subst hz; rfl
        · have hu' := rate_ok hu
          have hv' := rate_ok hv
          have p := ab_mul_in hx hu'
          have hav : 0 < ab v := by unfold ab; split <;> omega
          have hb : (v != 0) = true := by simp [hz]
          have hb2 : (v == 0) = false := by simp [hz]
          simp only [hb, hb2, i6_ok hx, i6_ok hu', i6_ok hv', wB_ab (i6_ok hx), wB_ab (i6_ok hu'), wB_ab (i6_ok hv'), lo_wB, vw_hl, hi_wB (show 0 ≤ ab x * ab u ∧ ab x * ab u < _ from ⟨p.1, by omega⟩), decide_eq_true hav, Bool.and_self, cond_true, cond_false, Bool.not_true]
          rw [fitT_eq]
          rfl
theorem scale0_text (N n : Nat) (α : Type) (x u v : Int) (k : AOut → Option α) : evFn real tab ((twT fsE spB).env real tab N (n + 6)) N Tryz.f89 α [iN x, iN u, iN v, iN 0] k = scaleText x u v 0 k := by kernel_rfl
theorem scale1_text (N n : Nat) (α : Type) (x u v : Int) (k : AOut → Option α) : evFn real tab ((twT fsE spB).env real tab N (n + 6)) N Tryz.f89 α [iN x, iN u, iN v, iN 1] k = scaleText x u v 1 k := by kernel_rfl
theorem scale2_text (N n : Nat) (α : Type) (x u v : Int) (k : AOut → Option α) : evFn real tab ((twT fsE spB).env real tab N (n + 6)) N Tryz.f89 α [iN x, iN u, iN v, iN 2] k = scaleText x u v 2 k := by kernel_rfl
theorem scale3_text (N n : Nat) (α : Type) (x u v : Int) (k : AOut → Option α) : evFn real tab ((twT fsE spB).env real tab N (n + 6)) N Tryz.f89 α [iN x, iN u, iN v, iN 3] k = scaleText x u v 3 k := by kernel_rfl
theorem scaleS_ok : FspOk Tryz.prog 89 scaleS := tower_S fsE_ok spB_ok ⟨Tryz.func89, fun _ _ => by kernel_rfl⟩ (by intro α args k; unfold scaleS; split <;> simp only [cond_bind, Option.bind_some, Option.bind_none]) fun args out hs h => by
  unfold scaleS at h
  split at h
  · rename_i x u v how
    cases hw : wayB how
    · rw [hw] at h; cases h
    · rw [hw, cond_true] at h
      rcases way_cases hw with rfl | rfl | rfl | rfl
      · exact ⟨8, 6, (scale0_text 8 0 AOut x u v some).trans ((scale_fin ..).trans h)⟩
      · exact ⟨8, 6, (scale1_text 8 0 AOut x u v some).trans ((scale_fin ..).trans h)⟩
      · exact ⟨8, 6, (scale2_text 8 0 AOut x u v some).trans ((scale_fin ..).trans h)⟩
      · exact ⟨8, 6, (scale3_text 8 0 AOut x u v some).trans ((scale_fin ..).trans h)⟩
  · cases h
end Go.Proofs.YtgpljldfbhkdlaaGreat

/- The contracts of package fixed, and what may end early in package contact. -/
namespace Go.Proofs.YtgpljldfbhkdlaaGreat
open Go.RowKit

noncomputable def fsF : FuncId → Option Fsp := fun g =>
  if g = 96 then some plusPS else
  if g = 97 then some minusPS else
  if g = 92 then some uniS else
  if g = 93 then some timesS else
  if g = 89 then some scaleS else
  fsE g
theorem fsF_ok : FsOk fsF :=
  fs_cons plusPS_ok <|
  fs_cons minusPS_ok <|
  fs_cons uniS_ok <|
  fs_cons timesS_ok <|
  fs_cons scaleS_ok <|
  fsE_ok
noncomputable def spC : FuncId → Option (Cv → Cv) := fun g =>
  spB g
theorem spC_ok : SpOk spC :=
  spB_ok
end Go.Proofs.YtgpljldfbhkdlaaGreat

/- Ice in plain numbers: how it brakes and bends. -/
namespace Go.Proofs.YtgpljldfbhkdlaaGreat

/-- Rounded to the nearest. -/
theorem near_eq {n d : Int} (hn : 0 ≤ n) (hd : 0 < d) : rnd 3 false n d = (2 * n + d) / (2 * d) := by
  have hu : up1 3 false (n % d) d = (decide (0 < n % d) && decide (d ≤ n % d + n % d)) := rfl
  unfold rnd
  rw [hu]
  have e1 := Int.emod_add_mul_ediv n d
  have e2 := Int.emod_nonneg n (show d ≠ 0 by omega)
  have e3 := Int.emod_lt_of_pos n hd
  have hmul : 2 * d * (n / d) = 2 * (d * (n / d)) := by rw [Int.mul_assoc]
  generalize n / d = q at *
  generalize n % d = r at *
  by_cases h : d ≤ r + r
  · rw [decide_eq_true (show 0 < r by omega), decide_eq_true h]
    have e : 2 * n + d = (2 * r - d) + 2 * d * (q + 1) := by rw [Int.mul_add, hmul]; omega
    rw [e, Int.add_mul_ediv_left _ _ (by omega), Int.ediv_eq_zero_of_lt (by omega) (by omega)]
    simp
  · rw [decide_eq_false h, Bool.and_false]
    have e : 2 * n + d = (2 * r + d) + 2 * d * q := by rw [hmul]; omega
    rw [e, Int.add_mul_ediv_left _ _ (by omega), Int.ediv_eq_zero_of_lt (by omega) (by omega)]
    simp
theorem near_mono {n m d : Int} (hn : 0 ≤ n) (h : n ≤ m) (hd : 0 < d) : rnd 3 false n d ≤ rnd 3 false m d := by
  rw [near_eq hn hd, near_eq (by omega) hd]
  exact Int.ediv_le_ediv (by omega) (by omega)
theorem near_mul {m d : Int} (hm : 0 ≤ m) (hd : 0 < d) : rnd 3 false (m * d) d = m := by
  rw [near_eq (Int.mul_nonneg hm (by omega)) hd, show 2 * (m * d) + d = d + 2 * d * m by rw [Int.mul_comm m d, Int.mul_assoc]; omega, Int.add_mul_ediv_left _ _ (by omega), Int.ediv_eq_zero_of_lt (by omega) (by omega)]
  omega
theorem near_nn {n d : Int} (hn : 0 ≤ n) (hd : 0 < d) : 0 ≤ rnd 3 false n d := rnd_nn hn hd

/-- How ice brakes, and bends: with a pebble p and a polish q. -/
def lesV (fl ke p : Int) : Int := rnd 3 false ((fl - ke) * p) 1000
def brkV (fl ke sw p q : Int) : Int := rnd 3 false ((fl - lesV fl ke p) * (1000000 - sw * q)) 1000000
def bndV (be q : Int) : Int := rnd 3 false (65536 * (be * (2000 - q))) 2000000

structure GrIs (fl ke sw be we : Int) : Prop where
  ke : 1 ≤ ke ∧ ke ≤ fl
  fl : fl ≤ 65536
  sw : 0 ≤ sw ∧ sw ≤ 1000
  be : 0 ≤ be ∧ be ≤ 1000
  we : 0 ≤ we ∧ we ≤ 1000
abbrev Gr1 (p : Int) : Prop := 0 ≤ p ∧ p ≤ 1000

theorem mul_in {a b A B : Int} (ha : 0 ≤ a ∧ a ≤ A) (hb : 0 ≤ b ∧ b ≤ B) : 0 ≤ a * b ∧ a * b ≤ A * B := ⟨Int.mul_nonneg ha.1 hb.1, Int.mul_le_mul ha.2 hb.2 hb.1 (by omega)⟩
theorem les_in {fl ke sw be we p : Int} (g : GrIs fl ke sw be we) (hp : Gr1 p) : 0 ≤ lesV fl ke p ∧ lesV fl ke p ≤ fl - ke := by
  have := g.ke
  have a := mul_in (a := fl - ke) (A := fl - ke) (b := p) (B := 1000) ⟨by omega, by omega⟩ hp
  refine ⟨near_nn a.1 (by omega), ?_⟩
  have := near_mono a.1 a.2 (d := 1000) (by omega)
  rwa [near_mul (by omega) (by omega)] at this
theorem les_mono {fl ke sw be we p p' : Int} (g : GrIs fl ke sw be we) (hp : Gr1 p) (h : p ≤ p') : lesV fl ke p ≤ lesV fl ke p' := by
  have := g.ke
  have a := mul_in (a := fl - ke) (A := fl - ke) (b := p) (B := 1000) ⟨by omega, by omega⟩ hp
  exact near_mono a.1 (Int.mul_le_mul_of_nonneg_left h (by omega)) (by omega)
theorem swp_in {sw q : Int} (hs : 0 ≤ sw ∧ sw ≤ 1000) (hq : Gr1 q) : 0 ≤ 1000000 - sw * q ∧ 1000000 - sw * q ≤ 1000000 := by
  have := mul_in hs hq; omega
theorem brk_in {fl ke sw be we p q : Int} (g : GrIs fl ke sw be we) (hp : Gr1 p) (hq : Gr1 q) : 0 ≤ brkV fl ke sw p q ∧ brkV fl ke sw p q ≤ fl := by
  have l := les_in g hp
  have k := g.ke
  have s := swp_in g.sw hq
  have a := mul_in (a := fl - lesV fl ke p) (A := fl) (b := 1000000 - sw * q) (B := 1000000) ⟨by omega, by omega⟩ s
  refine ⟨near_nn a.1 (by omega), ?_⟩
  have := near_mono a.1 a.2 (d := 1000000) (by omega)
  rwa [near_mul (by omega) (by omega)] at this
theorem brk_mono {fl ke sw be we p p' q q' : Int} (g : GrIs fl ke sw be we) (hp : Gr1 p) (hp' : Gr1 p') (hq : Gr1 q) (hq' : Gr1 q') (h : p ≤ p') (h' : q ≤ q') : brkV fl ke sw p' q' ≤ brkV fl ke sw p q := by
  have l := les_in g hp
  have l' := les_in g hp'
  have m := les_mono g hp h
  have k := g.ke
  have s := swp_in g.sw hq
  have s' := swp_in g.sw hq'
  have t : sw * q ≤ sw * q' := Int.mul_le_mul_of_nonneg_left h' g.sw.1
  have a := mul_in (a := fl - lesV fl ke p') (A := fl) (b := 1000000 - sw * q') (B := 1000000) ⟨by omega, by omega⟩ s'
  exact near_mono a.1 (Int.mul_le_mul (by omega) (by omega) (by omega) (by omega)) (by omega)
theorem brk_none {fl ke sw be we : Int} (g : GrIs fl ke sw be we) : brkV fl ke sw 0 0 = fl := by
  have k := g.ke
  have e : lesV fl ke 0 = 0 := by unfold lesV; rw [Int.mul_zero]; rfl
  unfold brkV
  rw [e, Int.mul_zero, Int.sub_zero, Int.sub_zero]
  exact near_mul (by omega) (by omega)
theorem bnd_in {be q : Int} (hb : 0 ≤ be ∧ be ≤ 1000) (hq : Gr1 q) : 0 ≤ bndV be q ∧ bndV be q ≤ 65536 := by
  have a := mul_in hb (b := 2000 - q) (B := 2000) ⟨by omega, by omega⟩
  have b := mul_in (a := 65536) (A := 65536) (b := be * (2000 - q)) (B := 2000000) ⟨by omega, by omega⟩ ⟨a.1, by omega⟩
  refine ⟨near_nn b.1 (by omega), ?_⟩
  have := near_mono b.1 b.2 (d := 2000000) (by omega)
  rwa [near_mul (by omega) (by omega)] at this
theorem bnd_mono {be q q' : Int} (hb : 0 ≤ be ∧ be ≤ 1000) (hq' : Gr1 q') (h : q ≤ q') : bndV be q' ≤ bndV be q := by
  have a := mul_in hb (b := 2000 - q') (B := 2000) ⟨by omega, by omega⟩
  have t : be * (2000 - q') ≤ be * (2000 - q) := Int.mul_le_mul_of_nonneg_left (by omega) hb.1
  exact near_mono (by omega) (by omega) (by omega)
end Go.Proofs.YtgpljldfbhkdlaaGreat

/- Rounding in plain numbers: where the program's quotient is the plain one. -/
namespace Go.Proofs.YtgpljldfbhkdlaaGreat
open Go.RowKit

theorem rndP_small {how n d : Int} {neg : Bool} (h0 : 0 ≤ n) (hd : 0 < d) (h : n / d < 18446744073709551614) : rndP how neg n d = rnd how neg n d := by
  have h1 := Int.ediv_nonneg h0 (Int.le_of_lt hd)
  unfold rndP
  rw [decide_eq_true (by omega), cond_true]
  unfold rnd
  cases up1 how neg (n % d) d <;> simp only [cond_true, cond_false] <;> omega
theorem rnd_cut (neg : Bool) (n d : Int) : rnd 0 neg n d = n / d := by unfold rnd up1; simp
theorem div_le {n d m : Int} (hd : 0 < d) (h : n ≤ m * d) : n / d ≤ m := Int.ediv_le_of_le_mul hd h
/-- Down: what is not above. -/
theorem rnd_down {s d : Int} (hd : 0 < d) : sg (ngB s) (rnd 1 (ngB s) (ab s) d) = s / d := by
  unfold rnd up1 sg ngB ab
  have e1 := Int.emod_add_mul_ediv s d
  have e2 := Int.emod_nonneg s (show d ≠ 0 by omega)
  have e3 := Int.emod_lt_of_pos s hd
  by_cases h : s < 0
  · rw [decide_eq_true h, if_pos h]
    simp only [cond_true, if_pos rfl, Bool.and_true]
    have f1 := Int.emod_add_mul_ediv (-s) d
    have f2 := Int.emod_nonneg (-s) (show d ≠ 0 by omega)
    have f3 := Int.emod_lt_of_pos (-s) hd
    by_cases hz : (-s) % d = 0
    · rw [hz, decide_eq_false (by omega)]
      simp only [Bool.false_and, cond_false]
      have hs : s % d = 0 := by
        have := Int.emod_emod_of_dvd s (Int.dvd_refl d)
        exact (Int.emod_eq_zero_of_dvd (by have := Int.dvd_of_emod_eq_zero hz; exact (Int.dvd_neg).1 this))
      have : d * (-s / d) + d * (s / d) = 0 := by omega
      have : d * (-s / d + s / d) = 0 := by rw [Int.mul_add]; omega
      have := (Int.mul_eq_zero.1 this).resolve_left (by omega)
      omega
    · rw [decide_eq_true (by omega)]
      simp only [ite_true, Bool.true_and, cond_true]
      have hs : s % d ≠ 0 := fun hs => hz (Int.emod_eq_zero_of_dvd ((Int.dvd_neg).2 (Int.dvd_of_emod_eq_zero hs)))
      have h1 : d * (-s / d + s / d) = -((-s) % d) - s % d := by rw [Int.mul_add]; omega
      have h2 : -s / d + s / d = -1 := by
        have a : -s / d + s / d < 0 := by
          rcases Int.lt_or_le (-s / d + s / d) 0 with q | q
          · exact q
          · have := Int.mul_nonneg (Int.le_of_lt hd) q; omega
        have b : -2 < -s / d + s / d := by
          rcases Int.lt_or_le (-2) (-s / d + s / d) with q | q
          · exact q
          · have := Int.mul_le_mul_of_nonneg_left q (Int.le_of_lt hd); omega
        omega
      omega
  · rw [decide_eq_false h, if_neg h]
    simp

theorem ab_le {x B : Int} : ab x ≤ B ↔ -B ≤ x ∧ x ≤ B := by unfold ab; split <;> omega
theorem ab_sg (neg : Bool) {n : Int} (h : 0 ≤ n) : ab (sg neg n) = n := by
  unfold ab sg; cases neg
  · simp only [cond_false]; rw [if_neg (by omega)]
  · simp only [cond_true]; split <;> omega
theorem ok_le {x B : Int} (h : -B ≤ x ∧ x ≤ B) (hB : B ≤ 70368744177664) : okB x = true := by rw [ok_iff]; omega

theorem i64_in (n : Int) (h : -9223372036854775808 ≤ n ∧ n ≤ 9223372036854775807) : IntKind.i64.wrap n = n := by rw [IntKind.wrap_i64]; omega
theorem gt_le (a b : Int) : decide (a > b) = !decide (a ≤ b) := by
  by_cases h : a ≤ b
  · rw [decide_eq_true h, decide_eq_false (by omega)]; rfl
  · rw [decide_eq_false h, decide_eq_true (by omega)]; rfl
theorem ge_lt (a b : Int) : decide (a ≥ b) = !decide (a < b) := by
  by_cases h : a < b
  · rw [decide_eq_true h, decide_eq_false (by omega)]; rfl
  · rw [decide_eq_false h, decide_eq_true (by omega)]; rfl
theorem in_dec {a lo hi : Int} : (decide (lo ≤ a) && decide (a ≤ hi)) = true ↔ lo ≤ a ∧ a ≤ hi := by simp
theorem ab_pos {x : Int} (h : 0 ≤ x) : ab x = x := by unfold ab; rw [if_neg (by omega)]
theorem ng_pos {x : Int} (h : 0 ≤ x) : ngB x = false := decide_eq_false (by omega)
/-- Small sizes, scaled to the nearest. -/
theorem sl_near {a n d : Int} (ha : 0 ≤ a ∧ a ≤ 65536) (hn : 0 ≤ n ∧ n ≤ 2000000) (hd : 0 < d ∧ d ≤ 2000000) : slV a n d 3 = rnd 3 false (a * n) d ∧ slE a n d 3 = 0 := by
  have hm := mul_in ha hn
  have hq : a * n / d ≤ 131072000000 := Int.ediv_le_of_le_mul hd.1 (by
    have := Int.mul_le_mul_of_nonneg_left (show 1 ≤ d by omega) (show (0 : Int) ≤ 131072000000 by omega)
    omega)
  have h0 := rnd_nn (how := 3) (neg := false) hm.1 hd.1
  have hg : scG a n d = false := by unfold scG; rw [ng_pos ha.1, ng_pos hn.1, ng_pos (by omega)]; rfl
  have hP : slP a n d 3 = rnd 3 false (a * n) d := by
    unfold slP
    rw [hg, ab_pos ha.1, ab_pos hn.1, ab_pos (by omega)]
    exact rndP_small hm.1 hd.1 (by omega)
  have hok : slOk a n d = true := by
    unfold slOk
    rw [ok_iff.2 (by omega), rate_iff.2 (by omega), rate_iff.2 (by omega)]; rfl
  have hr : rnd 3 false (a * n) d ≤ 131072000001 := by
    unfold rnd
    cases up1 3 false (a * n % d) d <;> simp only [cond_true, cond_false] <;> omega
  have hd0 : (d == 0) = false := by simp; omega
  have hf : fxB (rnd 3 false (a * n) d) = true := by simp only [fxB, decide_eq_true_eq]; omega
  unfold slV slE
  rw [hok, hd0, hP, hg]
  unfold fxV fxE
  rw [hf]
  exact ⟨rfl, rfl⟩
end Go.Proofs.YtgpljldfbhkdlaaGreat

/- What is done under a deferred function that recovers: package fixed's tried, of integers. -/
namespace Go.Proofs.YtgpljldfbhkdlaaGreat
open Go.RowKit

theorem fntried1_panic (b : Nat) (x y c : Int) (w : World) (hp : w.cell? ⟨b, 0, none⟩ = some (.int .i64 x)) (hq : w.cell? ⟨b + 1, 0, none⟩ = some (.int .i64 y)) (fp : w.frozen? ⟨b, 0, none⟩ = false) (fq : w.frozen? ⟨b + 1, 0, none⟩ = false) (hqb : b + 1 < w.heap.size) :
    CallsD Tryz.prog 202 #[.pointer (some ⟨b, 0, none⟩), .pointer (some ⟨b + 1, 0, none⟩)] (.panicking (fxPanic c)) w fun e u' w' =>
      e = .returned (.tuple #[]) ∧ u' = .panicking [{ v := .iface 154 (.agg #[.int .i64 c]), recovered := true }] ∧ w'.cell? ⟨b, 0, none⟩ = some (.int .i64 0) ∧ w'.cell? ⟨b + 1, 0, none⟩ = some (.int .i64 c) ∧ Exe w.heap.size b w w' := by
  refine callsD_of_wpS Tryz.func202 rfl fun c₀ cs hu => ?_
  apply wpS_seq
  apply wpS_region
  simp [wpOpsS, go_sem, recoverD, hu, fxPanic, Tryz.ntmps202, Exit.thenS, Array.replicate, List.replicate]
  refine wpS_of_wp ?_
  clear hu
  have hta := fun w => fxassert_yes c w
  have ha : ∀ o, Below w.heap.size w (w.alloc o) := fun o => (Below.refl _ _).alloc (Nat.le_refl _) o
  have hp' : ∀ o, (w.alloc o).cell? ⟨b, 0, none⟩ = some (.int .i64 x) := fun o => ((ha o).cell (p := ⟨b, 0, none⟩) (by simp; omega)).trans hp
  have hq' : ∀ o, (w.alloc o).cell? ⟨b + 1, 0, none⟩ = some (.int .i64 y) := fun o => ((ha o).cell (p := ⟨b + 1, 0, none⟩) (by simp; omega)).trans hq
  have fp' : ∀ o, (w.alloc o).frozen? ⟨b, 0, none⟩ = false := fun o => ((ha o).frozen (p := ⟨b, 0, none⟩) (by simp; omega)).trans fp
  have fq' : ∀ o, (w.alloc o).frozen? ⟨b + 1, 0, none⟩ = false := fun o => ((ha o).frozen (p := ⟨b + 1, 0, none⟩) (by simp; omega)).trans fq
  clear ha
  go_wp2
  go_region
  all_goals
    go_big_unhide
    simp [bodyPostS, results, Tryz.results202, go_sem]
    refine ⟨cellSet _ (hp' _), cellSet (u := .int .i64 y) _ ((cellSetNe _ (by simp)).trans (hq' _)), ?_⟩
    exact (((Exe.of ((Below.refl w.heap.size w).alloc (Nat.le_refl _) _)).trans (.set _)).trans (.set1 _)).drew

theorem fntried1_idle (b : Nat) (w : World) :
    CallsD Tryz.prog 202 #[.pointer (some ⟨b, 0, none⟩), .pointer (some ⟨b + 1, 0, none⟩)] .returning w fun e u' w' =>
      e = .returned (.tuple #[]) ∧ u' = .returning ∧ Below w.heap.size w w' := by
  refine callsD_of_wpS Tryz.func202 rfl fun c₀ cs hu => ?_
  apply wpS_seq
  apply wpS_region
  simp [wpOpsS, go_sem, recoverD, hu, Tryz.ntmps202, Exit.thenS, Array.replicate, List.replicate]
  refine wpS_of_wp ?_
  have hta := fun w => fxassert_nil w
  go_wp2
  all_goals
    simp [bodyPostS, results, Tryz.results202, go_sem]
    exact ⟨.returning, by cases c₀; simp_all, rfl, (Below.refl _ _).alloc (Nat.le_refl _) _⟩

set_option maxHeartbeats 1000000 in
theorem fntried_ok (K : FuncId) (caps : Array Value) (v : Int) (Q : World → Prop) (he : ∀ w, (callFunc K caps).run Tryz.prog w = .ok (.enter K caps) w) (w : World)
    (h : ∀ w1, Below w.heap.size w w1 → w.heap.size + 1 < w1.heap.size → Calls Tryz.prog K caps w1 fun e w' => e = .returned (.int .i64 v) ∧ w'.heap[w.heap.size]? = w1.heap[w.heap.size]? ∧ w'.heap[w.heap.size + 1]? = w1.heap[w.heap.size + 1]? ∧ w1.heap.size ≤ w'.heap.size ∧ Q w') :
    Calls Tryz.prog 189 #[.func (.func K) #[] caps] w fun e w' => e = .returned (.tuple #[.int .i64 v, .int .i64 0]) ∧ ∃ w2, Q w2 ∧ Exe w2.heap.size w.heap.size w2 w' := by
  have hmf : ∀ (fn : Fn) (first cap : Array Value) (w : World), (Instr.makeFunc fn first cap).run Tryz.prog w = .ok (.func fn first cap) w := fun _ _ _ _ => rfl
  have HH := hidOf h
  have hcall : ∀ w, (callFunc K caps).run Tryz.prog w = .ok (.enter K caps) w := he
  clear h he
  go_enter_defers Tryz.func189, Tryz.ntmps189
  go_wp2_with (go_at_fn K; refine (HH.out _ (((Below.refl _ _).alloc (Nat.le_refl _) _).alloc (by simp) _) (by simp)).mono ?_; rintro e w1 ⟨rfl, hb1, hb2, hz1, hq⟩; obtain ⟨hc1, hc2, hf1, hf2⟩ := two_kept hb1 hb2; have hz : w.heap.size + 1 < w1.heap.size := (by simp at hz1; omega); have hd1 := hc1 0; have hd2 := hc2 0)
  refine leaves_cons (f := 202) (args := #[.pointer (some ⟨w.heap.size, 0, none⟩), .pointer (some ⟨w.heap.size + 1, 0, none⟩)]) (by simp) (by simp [go_sem]) ?_
  have hs : ((w1.setCell ⟨w.heap.size, 0, none⟩ (.int .i64 v)).setCell ⟨w.heap.size + 1, 0, none⟩ (.int .i64 0)).heap.size = w1.heap.size := by simp [World.setCell]
  refine (fntried1_idle w.heap.size _).mono ?_
  rintro e u' w2 ⟨rfl, rfl, hb2⟩
  rw [hs] at hb2
  have g1 : w2.cell? ⟨w.heap.size, 0, none⟩ = some (.int .i64 v) := by
    rw [hb2.cell (p := ⟨w.heap.size, 0, none⟩) (by show w.heap.size < _; omega), cellSetNe _ (by simp)]
    exact cellSet _ hd1
  have g2 : w2.cell? ⟨w.heap.size + 1, 0, none⟩ = some (.int .i64 0) := by
    rw [hb2.cell (p := ⟨w.heap.size + 1, 0, none⟩) hz]
    exact cellSet (u := .int .i64 0) _ ((cellSetNe _ (by simp)).trans hd2)
  clear HH hcall hmf hc1 hc2 hf1 hf2 hd1 hd2
  simp [Leaves, settle, results, Tryz.results189, go_sem, g1, g2]
  exact ⟨w1, hq, ((Exe.set _).trans (.set1 _)).trans (Exe.of hb2)⟩

set_option maxHeartbeats 1000000 in
theorem fntried_err (K : FuncId) (caps : Array Value) (c : Int) (Q : World → Prop) (he : ∀ w, (callFunc K caps).run Tryz.prog w = .ok (.enter K caps) w) (w : World)
    (h : ∀ w1, Below w.heap.size w w1 → w.heap.size + 1 < w1.heap.size → Calls Tryz.prog K caps w1 fun e w' => e = .panicked (fxPanic c) ∧ w'.heap[w.heap.size]? = w1.heap[w.heap.size]? ∧ w'.heap[w.heap.size + 1]? = w1.heap[w.heap.size + 1]? ∧ w1.heap.size ≤ w'.heap.size ∧ Q w') :
    Calls Tryz.prog 189 #[.func (.func K) #[] caps] w fun e w' => e = .returned (.tuple #[.int .i64 0, .int .i64 c]) ∧ ∃ w2, Q w2 ∧ Exe w2.heap.size w.heap.size w2 w' := by
  have hmf : ∀ (fn : Fn) (first cap : Array Value) (w : World), (Instr.makeFunc fn first cap).run Tryz.prog w = .ok (.func fn first cap) w := fun _ _ _ _ => rfl
  have HH := hidOf h
  have hcall : ∀ w, (callFunc K caps).run Tryz.prog w = .ok (.enter K caps) w := he
  clear h he
  go_enter_defers Tryz.func189, Tryz.ntmps189
  go_wp2_with (go_at_fn K; refine (HH.out _ (((Below.refl _ _).alloc (Nat.le_refl _) _).alloc (by simp) _) (by simp)).mono ?_; rintro e w1 ⟨rfl, hb1, hb2, hz1, hq⟩; obtain ⟨hc1, hc2, hf1, hf2⟩ := two_kept hb1 hb2; have hz : w.heap.size + 1 < w1.heap.size := (by simp at hz1; omega))
  refine leaves_cons (f := 202) (args := #[.pointer (some ⟨w.heap.size, 0, none⟩), .pointer (some ⟨w.heap.size + 1, 0, none⟩)]) (by simp) (by simp [go_sem]) ?_
  refine (fntried1_panic w.heap.size 0 0 c _ (hc1 0) (hc2 0) (hf1 0) (hf2 0) hz).mono ?_
  rintro e u' w2 ⟨rfl, rfl, g1, g2, hb2⟩
  clear HH hcall hmf hc1 hc2 hf1 hf2
  simp [Leaves, settle, results, Tryz.results189, go_sem, g1, g2]
  exact ⟨w1, hq, hb2⟩

theorem fntried_tried : Tried2Ok Tryz.prog 189 154 fitI valI (.int .i64 0) (.int .i64 0) where
  shape := fun h g w u z hu hr => by
    unfold fitI at hu
    split at hu
    · exact rep_int hr
    · cases hu
  rep := fun h g w u hu => by
    unfold fitI at hu
    split at hu
    · exact .int _ _
    · cases hu
  repz := fun h g w => .int _ _
  enter := fun args w => by kernel_rfl
  ok := fun K caps u Q hu he w h => by
    unfold fitI at hu
    split at hu
    · exact fntried_ok K caps _ Q he w h
    · cases hu
  err := fun K caps c Q he w h => fntried_err K caps c Q he w h
end Go.Proofs.YtgpljldfbhkdlaaGreat

/- Contracts of package fixed: ways, products, roots, turns. -/
namespace Go.Proofs.YtgpljldfbhkdlaaGreat
open Go.RowKit

/-- wB, closed to evaluation. -/
theorem wBc_ex : ∃ f : Int → Bool, f = wB := ⟨_, rfl⟩
noncomputable def wBc : Int → Bool := Classical.choose wBc_ex
theorem wBc_eq : wBc = wB := Classical.choose_spec wBc_ex
noncomputable def prodCS : Fsp := fun _ args k => match args with
  | [.int .u64 x, .int .u64 y] => bif wBc x && wBc y then k (.ret (.agg [uN (hiW (x * y)), uN (loW (x * y))])) else none
  | _ => none
theorem prodCS_ok : FspOk Tryz.prog 100 prodCS := by
  have e : prodCS = prodS := by
    unfold prodCS prodS; rw [wBc_eq]; rfl
  rw [e]; exact prodS_ok
noncomputable def cmpCS : Fsp := fun _ args k => match args with
  | [.agg [.int .u64 a, .int .u64 b], .agg [.int .u64 c, .int .u64 d]] => bif wBc b && wBc d then k (.ret (.int .i64 (cmp3 (vw a b) (vw c d)))) else none
  | _ => none
theorem cmpCS_ok : FspOk Tryz.prog 105 cmpCS := by
  have e : cmpCS = cmpVS := by
    unfold cmpCS cmpVS; rw [wBc_eq]; rfl
  rw [e]; exact cmpVS_ok
--AT fsF spC
--TEXT ways | twT fsF spC | 8 | besom/fixed.ways | (how : Int) | $I{how}
--KEY 019629b5af
set_option maxRecDepth 100000 in
theorem ways_text (N n0 : Nat) (α : Type) (how : Int) (k : AOut → Option α) : evFn real tab ((twT fsF spC).env real tab N (n0 + 8)) N Tryz.f53 α [.int .i64 how] k =
  bif how == 0 then k (AOut.ret (AVal.fn 107 []))
  else
    bif how == 1 then k (AOut.ret (AVal.fn 108 []))
    else
      bif how == 2 then k (AOut.ret (AVal.fn 109 []))
      else
        bif how == 3 then k (AOut.ret (AVal.fn 110 []))
        else k (AOut.pan (AVal.ifc 154 (AVal.agg [AVal.int IntKind.i64 2]))) := by kernel_rfl
--END
noncomputable def waysS : Fsp := fun _ args k => match args with
  | [.int .i64 how] => bif how == 0 then k (.ret (.fn 107 [])) else bif how == 1 then k (.ret (.fn 108 [])) else bif how == 2 then k (.ret (.fn 109 [])) else bif how == 3 then k (.ret (.fn 110 [])) else k (mis fxm 2)
  | _ => none
theorem waysS_ok : FspOk Tryz.prog 53 waysS := tower_S fsF_ok spC_ok ⟨Tryz.func53, fun _ _ => by kernel_rfl⟩ (by intro α args k; unfold waysS; split <;> first | rfl | simp only [cond_bind, Option.bind_some]) fun args out hs h => by
  unfold waysS at h
  split at h
  · rename_i how
    exact ⟨8, 8, (ways_text 8 0 AOut how some).trans h⟩
  · cases h
--FS fsL0 | fsF | ways=besom/fixed.ways;prodC=besom/fixed.product;cmpC=(besom/fixed.wide).compare
noncomputable def fsL0 : FuncId → Option Fsp := fun g =>
  if g = 53 then some waysS else
  if g = 100 then some prodCS else
  if g = 105 then some cmpCS else
  fsF g
theorem fsL0_ok : FsOk fsL0 :=
  fs_cons waysS_ok <|
  fs_cons prodCS_ok <|
  fs_cons cmpCS_ok <|
  fsF_ok
--END
/-- A round, with the number that is tried. -/
noncomputable def wrBody {α : Type} (h l n b m : Int) : Option (LRes (Int × Int × Unit) α) :=
  bif decide (b > 0) then
    bif wBc m && wBc m then
      bif wBc (loW (m * m)) && wBc l then
        bif decide (cmp3 (vw (hiW (m * m)) (loW (m * m))) (vw h l) ≤ 0) then some (LRes.cont (m, b.fdiv (2 ^ min (Int.toNat 1) 64), ()))
        else some (LRes.cont (n, b.fdiv (2 ^ min (Int.toNat 1) 64), ()))
      else none
    else none
  else some (LRes.brk 0 (n, b, ()))
set_option maxRecDepth 100000 in
theorem wroot_text (N n0 : Nat) (α : Type) (h l : Int) (k : AOut → Option α) : evFn real tab ((twT fsL0 spC).env real tab N (n0 + 8)) N Tryz.f103 α [.agg [.int .u64 h, .int .u64 l]] k =
    afterL
      (iterL N (fun x : Int × Int × Unit => wrBody h l x.1 x.2.1 (IntKind.u64.wrap (((BitVec.ofInt 64 x.1 ||| BitVec.ofInt 64 x.2.1).toNat : Nat) : Int))) (0, 4611686018427387904, ()))
      fun id y => if id = 0 then k (.ret (.int .u64 y.1)) else none := by kernel_rfl
def rtB (h l : Int) : Bool := (wB h && wB l) && decide (vw h l < 85070591730234615865843651857942052864)
def rtP (s : Int) (m : Nat) : Bool := decide ((m : Int) * m ≤ s)
theorem rt_bs (s : Int) : rt s = ((bs (rtP s) 63 0 : Nat) : Int) := by rw [rt_C]; rfl
theorem rtP_anti {s : Int} (m n : Nat) (h : n ≤ m) (hm : rtP s m = true) : rtP s n = true := by
  simp only [rtP, decide_eq_true_eq] at hm ⊢
  have : (n : Int) * n ≤ m * m := Int.mul_le_mul (by omega) (by omega) (by omega) (by omega)
  omega
/-- The root: what it is. -/
theorem rt_spec {s : Int} (h0 : 0 ≤ s) (h1 : s < 85070591730234615865843651857942052864) : 0 ≤ rt s ∧ rt s * rt s ≤ s ∧ s < (rt s + 1) * (rt s + 1) ∧ rt s < 9223372036854775808 := by
  have p63 : (2 : Nat) ^ 63 = 9223372036854775808 := rfl
  have ht : rtP s (0 + 2 ^ 63) = false := by
    rw [p63, Nat.zero_add]
    simp only [rtP, decide_eq_false_iff_not]
    intro h
    have h : (9223372036854775808 : Int) * 9223372036854775808 ≤ s := h
    omega
  have a := bs_spec (rtP s) (fun m n => rtP_anti m n) 63 0 (by simp [rtP]; exact h0) ht
  rw [p63] at a
  rw [rt_bs]
  generalize bs (rtP s) 63 0 = n at *
  simp only [rtP, decide_eq_true_eq, decide_eq_false_iff_not] at a
  have e : (((n + 1 : Nat) : Int)) = (n : Int) + 1 := by omega
  rw [e] at a
  have hb := a.2.2.2
  exact ⟨by omega, a.1, by omega, by omega⟩
theorem wroot_plain (N n0 : Nat) (α : Type) {h l : Int} (hb : rtB h l = true) (k : AOut → Option α) : evFn real tab ((twT fsL0 spC).env real tab (N + 64) (n0 + 8)) (N + 64) Tryz.f103 α [.agg [uN h, uN l]] k = k (.ret (.int .u64 (rt (vw h l)))) := by
  rw [wroot_text]
  simp only [rtB, Bool.and_eq_true, decide_eq_true_eq, wB_iff] at hb
  obtain ⟨⟨hh, hl⟩, hs⟩ := hb
  have hl' := hl
  unfold Word at hh hl
  have hs0 : 0 ≤ vw h l := by unfold vw; omega
  generalize hf : (fun y : Int × Int × Unit => (_ : Option (LRes (Int × Int × Unit) α))) = f
  have e := bit_search (f := f) (rtP (vw h l)) 63 (fun n k h1 h2 h3 => ?_) (fun n => ?_) 63 0 rfl (by omega) (by simp [rtP]; exact hs0) (N + 64) (by omega)
  · have q0 : (2 ^ 63 / 2 : Nat) = 4611686018427387904 := rfl
    have q1 : ((4611686018427387904 : Nat) : Int) = 4611686018427387904 := rfl
    rw [q0, q1] at e
    have e' : iterL (N + 64) f (0, 4611686018427387904, ()) = some (.brk 0 (((bs (rtP (vw h l)) 63 0 : Nat) : Int), 0, ())) := e
    rw [e', rt_bs]
    rfl
  · rw [← hf]
    have p63 : (2 : Nat) ^ 63 = 9223372036854775808 := rfl
    have hk : 2 ^ (k + 1) = 2 ^ k + 2 ^ k := by rw [Nat.pow_succ]; omega
    have hpos : 0 < 2 ^ k := Nat.two_pow_pos k
    have hor : IntKind.u64.wrap (((BitVec.ofInt 64 (n : Int) ||| BitVec.ofInt 64 ((2 ^ k : Nat) : Int)).toNat : Nat) : Int) = ((n + 2 ^ k : Nat) : Int) := by
      rw [or_add (k + 1) (by omega) (by omega) (by omega) (by omega)]; omega
    have hsh : (((2 ^ k : Nat) : Int)).fdiv (2 ^ min (Int.toNat 1) 64) = ((2 ^ k / 2 : Nat) : Int) := by
      rw [show (2 : Int) ^ min (Int.toNat 1) 64 = 2 from rfl, fdiv_pos _ (by omega)]; omega
    show wrBody h l (n : Int) ((2 ^ k : Nat) : Int) _ = _
    rw [hor]
    unfold wrBody
    rw [hsh, decide_eq_true (show ((2 ^ k : Nat) : Int) > 0 by omega), wBc_eq]
    have w1 : wB ((n + 2 ^ k : Nat) : Int) = true := by rw [wB_iff]; unfold Word; omega
    rw [w1, lo_wB, wB_iff.2 hl', cmp3_le, vw_hl, Bool.and_self, cond_true, cond_true, cond_true]
    show (bif rtP (vw h l) (n + 2 ^ k) then _ else _) = _
    cases rtP (vw h l) (n + 2 ^ k) <;> rfl
  · rw [← hf]
    rfl
noncomputable def rootWS : Fsp := fun _ args k => match args with
  | [.agg [.int .u64 h, .int .u64 l]] => bif rtB h l then k (.ret (.int .u64 (rt (vw h l)))) else none
  | _ => none
theorem rootWS_ok : FspOk Tryz.prog 103 rootWS := tower_S fsL0_ok spC_ok ⟨Tryz.func103, fun _ _ => by kernel_rfl⟩ (by intro α args k; unfold rootWS; split <;> simp only [cond_bind, Option.bind_some, Option.bind_none]) fun args out hs hq => by
  unfold rootWS at hq
  split at hq
  · rename_i h l
    cases hb : rtB h l
    · rw [hb] at hq; cases hq
    · rw [hb, cond_true] at hq
      exact ⟨64, 8, (wroot_plain 0 0 AOut hb some).trans hq⟩
  · cases hq
noncomputable def spL : FuncId → Option (Cv → Cv) := fun g =>
  if g = 189 then some (tried2S fxm fitI (.int .i64 0)) else
  spC g
theorem spL_ok : SpOk spL :=
  sp_cons (fun cv h caps => tried2_at fntried_tried cv h caps) <|
  spC_ok

/-! How a way rounds. -/
--AT fsL0 spC
--TEXT way0 | twT fsL0 spC | 8 | besom/fixed.ways$1 | (x : Int) (b : Bool) | $I{x}, .bool b
--KEY 802f9cbeec
set_option maxRecDepth 100000 in
theorem way0_text (N n0 : Nat) (α : Type) (x : Int) (b : Bool) (k : AOut → Option α) : evFn real tab ((twT fsL0 spC).env real tab N (n0 + 8)) N Tryz.f107 α [.int .i64 x, .bool b] k =
  k (AOut.ret (AVal.bool false)) := by kernel_rfl
--END
--TEXT way1 | twT fsL0 spC | 8 | besom/fixed.ways$2 | (x : Int) (b : Bool) | $I{x}, .bool b
--KEY 3973e3cf5b
set_option maxRecDepth 100000 in
theorem way1_text (N n0 : Nat) (α : Type) (x : Int) (b : Bool) (k : AOut → Option α) : evFn real tab ((twT fsL0 spC).env real tab N (n0 + 8)) N Tryz.f108 α [.int .i64 x, .bool b] k =
  k (AOut.ret (AVal.bool b)) := by kernel_rfl
--END
--TEXT way2 | twT fsL0 spC | 8 | besom/fixed.ways$3 | (x : Int) (b : Bool) | $I{x}, .bool b
--KEY b80fac6547
set_option maxRecDepth 100000 in
theorem way2_text (N n0 : Nat) (α : Type) (x : Int) (b : Bool) (k : AOut → Option α) : evFn real tab ((twT fsL0 spC).env real tab N (n0 + 8)) N Tryz.f109 α [.int .i64 x, .bool b] k =
  k (AOut.ret (AVal.bool !b)) := by kernel_rfl
--END
--TEXT way3 | twT fsL0 spC | 8 | besom/fixed.ways$4 | (x : Int) (b : Bool) | $I{x}, .bool b
--KEY f02d02a86a
set_option maxRecDepth 100000 in
theorem way3_text (N n0 : Nat) (α : Type) (x : Int) (b : Bool) (k : AOut → Option α) : evFn real tab ((twT fsL0 spC).env real tab N (n0 + 8)) N Tryz.f110 α [.int .i64 x, .bool b] k =
  k (AOut.ret (AVal.bool (decide (x ≥ 0)))) := by kernel_rfl
--END
--FIN way0 | besom/fixed.ways$1 | (x : Int) (b : Bool) | $I{x}, .bool b | b1 false
theorem way0_fin (x : Int) (b : Bool) (hs : ∀ c ∈ ([.int .i64 x, .bool b] : List AVal), Sm c) : ∃ N n, ∀ α (k : AOut → Option α), evFn real tab ((twT fsL0 spC).env real tab N n) N Tryz.f107 α [.int .i64 x, .bool b] k = k (b1 false) := by
  exact ⟨8, 8, fun α k => way0_text 8 0 α x b k⟩
--CON way0
noncomputable def way0S : Fsp := fun _ args k => match args with
  | [.int .i64 x, .bool b] => k (b1 false)
  | _ => none
theorem way0S_ok : FspOk Tryz.prog 107 way0S := tower_S fsL0_ok spC_ok ⟨Tryz.func107, fun _ _ => by kernel_rfl⟩ (by intro α args k; unfold way0S; split <;> rfl) fun args out hSm hEq => by
  unfold way0S at hEq
  split at hEq
  · rename_i x b
    obtain ⟨N, n, e⟩ := way0_fin x b hSm
    exact ⟨N, n, (e AOut some).trans hEq⟩
  · cases hEq
--END
--FIN way1 | besom/fixed.ways$2 | (x : Int) (b : Bool) | $I{x}, .bool b | b1 b
theorem way1_fin (x : Int) (b : Bool) (hs : ∀ c ∈ ([.int .i64 x, .bool b] : List AVal), Sm c) : ∃ N n, ∀ α (k : AOut → Option α), evFn real tab ((twT fsL0 spC).env real tab N n) N Tryz.f108 α [.int .i64 x, .bool b] k = k (b1 b) := by
  exact ⟨8, 8, fun α k => way1_text 8 0 α x b k⟩
--CON way1
noncomputable def way1S : Fsp := fun _ args k => match args with
  | [.int .i64 x, .bool b] => k (b1 b)
  | _ => none
theorem way1S_ok : FspOk Tryz.prog 108 way1S := tower_S fsL0_ok spC_ok ⟨Tryz.func108, fun _ _ => by kernel_rfl⟩ (by intro α args k; unfold way1S; split <;> rfl) fun args out hSm hEq => by
  unfold way1S at hEq
  split at hEq
  · rename_i x b
    obtain ⟨N, n, e⟩ := way1_fin x b hSm
    exact ⟨N, n, (e AOut some).trans hEq⟩
  · cases hEq
--END
--FIN way2 | besom/fixed.ways$3 | (x : Int) (b : Bool) | $I{x}, .bool b | b1 (!b)
theorem way2_fin (x : Int) (b : Bool) (hs : ∀ c ∈ ([.int .i64 x, .bool b] : List AVal), Sm c) : ∃ N n, ∀ α (k : AOut → Option α), evFn real tab ((twT fsL0 spC).env real tab N n) N Tryz.f109 α [.int .i64 x, .bool b] k = k (b1 (!b)) := by
  exact ⟨8, 8, fun α k => way2_text 8 0 α x b k⟩
--CON way2
noncomputable def way2S : Fsp := fun _ args k => match args with
  | [.int .i64 x, .bool b] => k (b1 (!b))
  | _ => none
theorem way2S_ok : FspOk Tryz.prog 109 way2S := tower_S fsL0_ok spC_ok ⟨Tryz.func109, fun _ _ => by kernel_rfl⟩ (by intro α args k; unfold way2S; split <;> rfl) fun args out hSm hEq => by
  unfold way2S at hEq
  split at hEq
  · rename_i x b
    obtain ⟨N, n, e⟩ := way2_fin x b hSm
    exact ⟨N, n, (e AOut some).trans hEq⟩
  · cases hEq
--END
--FIN way3 | besom/fixed.ways$4 | (x : Int) (b : Bool) | $I{x}, .bool b | b1 (decide (x ≥ 0))
theorem way3_fin (x : Int) (b : Bool) (hs : ∀ c ∈ ([.int .i64 x, .bool b] : List AVal), Sm c) : ∃ N n, ∀ α (k : AOut → Option α), evFn real tab ((twT fsL0 spC).env real tab N n) N Tryz.f110 α [.int .i64 x, .bool b] k = k (b1 (decide (x ≥ 0))) := by
  exact ⟨8, 8, fun α k => way3_text 8 0 α x b k⟩
--CON way3
noncomputable def way3S : Fsp := fun _ args k => match args with
  | [.int .i64 x, .bool b] => k (b1 (decide (x ≥ 0)))
  | _ => none
theorem way3S_ok : FspOk Tryz.prog 110 way3S := tower_S fsL0_ok spC_ok ⟨Tryz.func110, fun _ _ => by kernel_rfl⟩ (by intro α args k; unfold way3S; split <;> rfl) fun args out hSm hEq => by
  unfold way3S at hEq
  split at hEq
  · rename_i x b
    obtain ⟨N, n, e⟩ := way3_fin x b hSm
    exact ⟨N, n, (e AOut some).trans hEq⟩
  · cases hEq
--END
--TEXT up2 | twT fsL0 spC | 8 | (besom/fixed.wide).up | (h l : Int) | .agg [.int .u64 h, .int .u64 l], .int .u64 2
--KEY d9675aeb8b
set_option maxRecDepth 100000 in
theorem up2_text (N n0 : Nat) (α : Type) (h l : Int) (k : AOut → Option α) : evFn real tab ((twT fsL0 spC).env real tab N (n0 + 8)) N Tryz.f104 α [.agg [.int .u64 h, .int .u64 l], .int .u64 2] k =
  k
    (AOut.ret
      (AVal.agg
        [AVal.int IntKind.u64
            (IntKind.u64.wrap
              (↑(BitVec.ofInt 64 (IntKind.u64.wrap (h * 2 ^ min (Int.toNat 2) 64)) |||
                      BitVec.ofInt 64 (l.fdiv (2 ^ min (IntKind.u64.wrap (64 - 2)).toNat 64))).toNat :
                Int)),
          AVal.int IntKind.u64 (IntKind.u64.wrap (l * 2 ^ min (Int.toNat 2) 64))])) := by kernel_rfl
--END
noncomputable def up2S : Fsp := fun _ args k => match args with
  | [.agg [.int .u64 h, .int .u64 l], .int .u64 n] => bif n == 2 && rtB h l then k (.ret (.agg [uN (hiW (4 * vw h l)), uN (loW (4 * vw h l))])) else none
  | _ => none
theorem up2_plain {h l : Int} (hb : rtB h l = true) : IntKind.u64.wrap (((BitVec.ofInt 64 (IntKind.u64.wrap (h * 2 ^ min (Int.toNat 2) 64)) ||| BitVec.ofInt 64 (l.fdiv (2 ^ min (IntKind.u64.wrap (64 - 2)).toNat 64))).toNat : Nat) : Int) = hiW (4 * vw h l) ∧ IntKind.u64.wrap (l * 2 ^ min (Int.toNat 2) 64) = loW (4 * vw h l) := by
  simp only [rtB, Bool.and_eq_true, decide_eq_true_eq, wB_iff] at hb
  obtain ⟨⟨hh, hl⟩, hs⟩ := hb
  unfold Word at hh hl
  have k4 : (2 : Int) ^ min (Int.toNat 2) 64 = 4 := rfl
  have k62 : (2 : Int) ^ min (IntKind.u64.wrap (64 - 2)).toNat 64 = 4611686018427387904 := by
    have : (IntKind.u64.wrap (64 - 2)).toNat = 62 := by rw [IntKind.wrap_u64]; rfl
    rw [this]; rfl
  have hv : vw h l = h * 18446744073709551616 + l := rfl
  rw [hv] at hs ⊢
  rw [k4, k62, fdiv_pos _ (by omega), u64w (h * 4) (by omega), or_add 2 (by omega) (by omega) (by omega) (by omega), IntKind.wrap_u64]
  unfold hiW loW
  exact ⟨by omega, by omega⟩
theorem up2S_ok : FspOk Tryz.prog 104 up2S := tower_S fsL0_ok spC_ok ⟨Tryz.func104, fun _ _ => by kernel_rfl⟩ (by intro α args k; unfold up2S; split <;> simp only [cond_bind, Option.bind_some, Option.bind_none]) fun args out hs hq => by
  unfold up2S at hq
  split at hq
  · rename_i h l n
    by_cases hn : n = 2
    · subst hn
      cases hb : rtB h l
      · rw [hb] at hq; cases hq
      · rw [hb] at hq
        refine ⟨8, 8, (up2_text 8 0 AOut h l some).trans (Eq.trans ?_ hq)⟩
        rw [(up2_plain hb).1, (up2_plain hb).2]
        rfl
    · rw [show (n == 2) = false by simp [hn]] at hq; cases hq
  · cases hq
--FS fsL1 | fsL0 | rootW=(besom/fixed.wide).root;way0;way1;way2;way3;up2=(besom/fixed.wide).up
noncomputable def fsL1 : FuncId → Option Fsp := fun g =>
  if g = 103 then some rootWS else
  if g = 107 then some way0S else
  if g = 108 then some way1S else
  if g = 109 then some way2S else
  if g = 110 then some way3S else
  if g = 104 then some up2S else
  fsL0 g
theorem fsL1_ok : FsOk fsL1 :=
  fs_cons rootWS_ok <|
  fs_cons way0S_ok <|
  fs_cons way1S_ok <|
  fs_cons way2S_ok <|
  fs_cons way3S_ok <|
  fs_cons up2S_ok <|
  fsL0_ok
--END
noncomputable def rEnd {α : Type} (x : Int) (k : AOut → Option α) : Option α := bif wB x then (bif fxB x then k (i1 (sg false x)) else k (mis fxm 4)) else none
noncomputable def rootText {α : Type} (h l r m r1 : Int) (u : Bool) (k : AOut → Option α) : Option α :=
  bif rtB h l then
    bif wBc r && wBc r then
      bif !(hiW (r * r) == h && (loW (r * r) == l && true)) then
        bif (2 : Int) == 2 && rtB h l then
          bif wBc m && wBc m then
            bif wBc (loW (4 * vw h l)) && wBc (loW (m * m)) then (bif u then rEnd r1 k else rEnd r k)
            else none
          else none
        else none
      else rEnd r k
    else none
  else none
noncomputable def upW (how s : Int) : Bool := if how = 2 then true else if how = 3 then decide ((2 * rt s + 1) * (2 * rt s + 1) ≤ 4 * s) else false
theorem ge_cmp3 (a b : Int) : decide (cmp3 a b ≥ 0) = decide (b ≤ a) := by
  unfold cmp3
  rw [decide_eq_decide]
  split
  · constructor <;> intro _ <;> omega
  · split <;> constructor <;> intro _ <;> omega
theorem vw_eq {x h l : Int} (hl : Word l) : (hiW x == h && (loW x == l && true)) = (x == vw h l) := by
  rw [Bool.and_true, Bool.eq_iff_iff, Bool.and_eq_true, beq_iff_eq, beq_iff_eq, beq_iff_eq]
  unfold hiW loW vw
  unfold Word at hl
  constructor
  · rintro ⟨rfl, rfl⟩; omega
  · intro h; subst h; omega
theorem rEnd_of {α : Type} {x : Int} (h : 0 ≤ x ∧ x < 18446744073709551616) (k : AOut → Option α) : rEnd x k = fitK false x k := by
  unfold rEnd; rw [wB_iff.2 h]; rfl
theorem root_fin {α : Type} {h l how : Int} (hb : rtB h l = true) {u : Bool} (hu : u = upW how (vw h l)) (k : AOut → Option α) : rootText h l (rt (vw h l)) (2 * rt (vw h l) + 1) (rt (vw h l) + 1) u k = fitK false (rtN (vw h l) how) k := by
  have hb' := hb
  simp only [rtB, Bool.and_eq_true, decide_eq_true_eq, wB_iff] at hb'
  obtain ⟨⟨hh, hl⟩, hs⟩ := hb'
  have h0 : 0 ≤ vw h l := by unfold vw Word at *; omega
  obtain ⟨a, b, c, d⟩ := rt_spec h0 hs
  unfold rootText
  rw [hb, vw_eq hl, wBc_eq, wB_iff.2 (show Word (rt (vw h l)) from ⟨a, by omega⟩), wB_iff.2 (show Word (2 * rt (vw h l) + 1) from ⟨by omega, by omega⟩), lo_wB, lo_wB, rEnd_of (x := rt (vw h l)) ⟨a, by omega⟩, rEnd_of (x := rt (vw h l) + 1) ⟨by omega, by omega⟩, hu]
  unfold rtN
  generalize vw h l = s at *
  have sq : (2 * rt s + 1) * (2 * rt s + 1) = 4 * (rt s * rt s) + 4 * rt s + 1 := by
    rw [Int.add_mul, Int.mul_add, Int.one_mul, Int.mul_one, show 2 * rt s * (2 * rt s) = 4 * (rt s * rt s) by rw [Int.mul_assoc, Int.mul_left_comm (rt s) 2, ← Int.mul_assoc]; rfl]
    omega
  have e2 : ((2 : Int) == 2) = true := rfl
  unfold upW rtUp
  rw [e2]
  by_cases hq : rt s * rt s = s
  · have e3 : (rt s * rt s == s) = true := by rw [hq]; simp
    have e4 : decide ((2 * rt s + 1) * (2 * rt s + 1) ≤ 4 * s) = false := decide_eq_false (by omega)
    rw [e3, e4]
    split
    · simp
    · split <;> simp
  · have e3 : (rt s * rt s == s) = false := by simpa using hq
    rw [e3]
    split
    · simp
    · split
      · cases decide ((2 * rt s + 1) * (2 * rt s + 1) ≤ 4 * s) <;> simp
      · simp
noncomputable def rootFS : Fsp := fun _ args k => match args with
  | [.agg [.int .u64 h, .int .u64 l], .fn g []] =>
    match howOf g with
    | some how => bif rtB h l then fitK false (rtN (vw h l) how) k else none
    | none => none
  | _ => none
noncomputable abbrev rM (h l : Int) : Int := IntKind.u64.wrap (IntKind.u64.wrap (2 * rt (vw h l)) + 1)
noncomputable abbrev rO (h l : Int) : Int := IntKind.u64.wrap (rt (vw h l) + 1)
set_option maxRecDepth 100000 in
theorem root0_text (N n : Nat) (α : Type) (h l : Int) (k : AOut → Option α) : evFn real tab ((twT fsL1 spC).env real tab N (n + 8)) N Tryz.f52 α [.agg [uN h, uN l], .fn 107 []] k = rootText h l (rt (vw h l)) (rM h l) (rO h l) false k := by kernel_rfl
set_option maxRecDepth 100000 in
theorem root1_text (N n : Nat) (α : Type) (h l : Int) (k : AOut → Option α) : evFn real tab ((twT fsL1 spC).env real tab N (n + 8)) N Tryz.f52 α [.agg [uN h, uN l], .fn 108 []] k = rootText h l (rt (vw h l)) (rM h l) (rO h l) false k := by kernel_rfl
set_option maxRecDepth 100000 in
theorem root2_text (N n : Nat) (α : Type) (h l : Int) (k : AOut → Option α) : evFn real tab ((twT fsL1 spC).env real tab N (n + 8)) N Tryz.f52 α [.agg [uN h, uN l], .fn 109 []] k = rootText h l (rt (vw h l)) (rM h l) (rO h l) true k := by kernel_rfl
set_option maxRecDepth 100000 in
theorem root3_text (N n : Nat) (α : Type) (h l : Int) (k : AOut → Option α) : evFn real tab ((twT fsL1 spC).env real tab N (n + 8)) N Tryz.f52 α [.agg [uN h, uN l], .fn 110 []] k = rootText h l (rt (vw h l)) (rM h l) (rO h l) (decide (cmp3 (vw (hiW (4 * vw h l)) (loW (4 * vw h l))) (vw (hiW (rM h l * rM h l)) (loW (rM h l * rM h l))) ≥ 0)) k := by kernel_rfl
theorem rM_eq {h l : Int} (hb : rtB h l = true) : rM h l = 2 * rt (vw h l) + 1 ∧ rO h l = rt (vw h l) + 1 := by
  simp only [rtB, Bool.and_eq_true, decide_eq_true_eq, wB_iff] at hb
  obtain ⟨⟨hh, hl⟩, hs⟩ := hb
  obtain ⟨a, b, c, d⟩ := rt_spec (s := vw h l) (by unfold vw Word at *; omega) hs
  unfold rM rO
  rw [u64w (2 * rt (vw h l)) (by omega), u64w (2 * rt (vw h l) + 1) (by omega), u64w (rt (vw h l) + 1) (by omega)]
  exact ⟨rfl, rfl⟩
theorem rootFS_ok : FspOk Tryz.prog 52 rootFS := tower_S fsL1_ok spC_ok ⟨Tryz.func52, fun _ _ => by kernel_rfl⟩ (by intro α args k; unfold rootFS; split <;> (try split) <;> simp only [cond_bind, fitK_bind, Option.bind_some, Option.bind_none]) fun args out hs hq => by
  unfold rootFS at hq
  split at hq
  · rename_i h l g
    split at hq
    · rename_i how hg
      cases hb : rtB h l
      · rw [hb] at hq; cases hq
      · rw [hb, cond_true] at hq
        obtain ⟨m1, m2⟩ := rM_eq hb
        rcases how_cases hg with hf | ⟨rfl, rfl⟩ | ⟨rfl, rfl⟩ | ⟨rfl, rfl⟩ | ⟨rfl, rfl⟩
        · cases hf
        · refine ⟨64, 8, (root0_text 64 0 AOut h l some).trans (Eq.trans ?_ hq)⟩
          rw [m1, m2]; exact root_fin (how := 0) hb (by simp [upW]) some
        · refine ⟨64, 8, (root1_text 64 0 AOut h l some).trans (Eq.trans ?_ hq)⟩
          rw [m1, m2]; exact root_fin (how := 1) hb (by simp [upW]) some
        · refine ⟨64, 8, (root2_text 64 0 AOut h l some).trans (Eq.trans ?_ hq)⟩
          rw [m1, m2]; exact root_fin (how := 2) hb (by simp [upW]) some
        · refine ⟨64, 8, (root3_text 64 0 AOut h l some).trans (Eq.trans ?_ hq)⟩
          rw [m1, m2, vw_hl, vw_hl, ge_cmp3]; exact root_fin (how := 3) hb (by simp [upW]) some
    · cases hq
  · cases hq
--FS fsL2 | fsL1 | rootF=besom/fixed.root
noncomputable def fsL2 : FuncId → Option Fsp := fun g =>
  if g = 52 then some rootFS else
  fsL1 g
theorem fsL2_ok : FsOk fsL2 :=
  fs_cons rootFS_ok <|
  fsL1_ok
--END
--AT fsL2 spL
noncomputable def rtBr {α : Type} (h l how : Int) (k : AOut → Option α) : Option α :=
  bif rtB h l then
    bif fxB (rtN (vw h l) how) then k (i2 (sg false (rtN (vw h l) how)) 0) else k (i2 0 4)
  else none
noncomputable def by4 {α : Type} (how : Int) (B : Int → Option α) (E : Option α) : Option α := bif how == 0 then B 0 else bif how == 1 then B 1 else bif how == 2 then B 2 else bif how == 3 then B 3 else E
theorem by4_eq {α : Type} (how : Int) (B : Int → Option α) (E : Option α) : by4 how B E = bif wayB how then B how else E := by
  unfold by4
  cases hw : wayB how
  · have h0 : ¬ (0 ≤ how ∧ how ≤ 3) := fun h => by rw [show wayB how = true by simp [wayB]; omega] at hw; cases hw
    rw [show (how == 0) = false by simp; omega, show (how == 1) = false by simp; omega, show (how == 2) = false by simp; omega, show (how == 3) = false by simp; omega]
    rfl
  · rcases way_cases hw with rfl | rfl | rfl | rfl <;> rfl
theorem rtBr_eq {α : Type} {s : Int} (how : Int) (h0 : 0 ≤ s) (h1 : s < 85070591730234615865843651857942052864) (k : AOut → Option α) : rtBr (hiW s) (loW s) how k = k (i2 (fxV false (rtN s how)) (fxE (rtN s how))) := by
  have hb : rtB (hiW s) (loW s) = true := by
    unfold rtB
    rw [hi_wB ⟨h0, by omega⟩, lo_wB, vw_hl, decide_eq_true h1]; rfl
  unfold rtBr
  rw [hb, vw_hl]
  unfold fxV fxE
  cases fxB (rtN s how) <;> rfl
--CON froot
noncomputable def frootS : Fsp := fun _ args k => match args with
  | [.int .i64 x, .int .i64 how] => k (i2 (rootV x how) (rootE x how))
  | _ => none
--END
set_option maxRecDepth 100000 in
theorem flen_text (N n0 : Nat) (α : Type) (x y how : Int) (k : AOut → Option α) : evFn real tab ((twT fsL2 spL).env real tab N (n0 + 8)) N Tryz.f19 α [.agg [.int .i64 x, .int .i64 y], .int .i64 how] k =
    bif okB x && okB y then
      by4 how (fun how => rtBr (hiW (sq2 x y)) (loW (sq2 x y)) how k) (k (i2 0 2))
    else k (i2 0 2) := by kernel_rfl
theorem sq2_in' {x y : Int} (hx : okB x = true) (hy : okB y = true) : 0 ≤ sq2 x y ∧ sq2 x y ≤ 9903520314283042199192993792 := by
  have a := ab_mul_in hx hx
  have b := ab_mul_in hy hy
  unfold sq2
  omega
--FIN flen | besom/fixed.Length | (x y how : Int) | $S{x y}, $I{how} | i2 (lenV x y how) (lenE x y how)
theorem flen_fin (x y how : Int) (hs : ∀ c ∈ ([.agg [.int .i64 x, .int .i64 y], .int .i64 how] : List AVal), Sm c) : ∃ N n, ∀ α (k : AOut → Option α), evFn real tab ((twT fsL2 spL).env real tab N n) N Tryz.f19 α [.agg [.int .i64 x, .int .i64 y], .int .i64 how] k = k (i2 (lenV x y how) (lenE x y how)) := by
  refine ⟨64, 8, fun α k => (flen_text 64 0 α x y how k).trans ?_⟩
  rw [by4_eq]
  unfold lenV lenE lenB
  cases hx : okB x
  · rfl
  · cases hy : okB y
    · rfl
    · cases hw : wayB how
      · rfl
      · have s := sq2_in' hx hy
        rw [rtBr_eq how (by omega) (by omega)]
        rfl
--CON flen
noncomputable def flenS : Fsp := fun _ args k => match args with
  | [.agg [.int .i64 x, .int .i64 y], .int .i64 how] => k (i2 (lenV x y how) (lenE x y how))
  | _ => none
theorem flenS_ok : FspOk Tryz.prog 19 flenS := tower_S fsL2_ok spL_ok ⟨Tryz.func19, fun _ _ => by kernel_rfl⟩ (by intro α args k; unfold flenS; split <;> rfl) fun args out hSm hEq => by
  unfold flenS at hEq
  split at hEq
  · rename_i x y how
    obtain ⟨N, n, e⟩ := flen_fin x y how hSm
    exact ⟨N, n, (e AOut some).trans hEq⟩
  · cases hEq
--END
/-- What the program's product comes to. -/
def mpV (a b how : Int) : Int := bif okB a && okB b && wayB how then fxV (xorB (ngB a) (ngB b)) (prP a b how) else 0
def mpE (a b how : Int) : Int := bif okB a && okB b && wayB how then fxE (prP a b how) else 2
set_option maxRecDepth 100000 in
theorem fmul_text (N n0 : Nat) (α : Type) (x y how : Int) (k : AOut → Option α) : evFn real tab ((twT fsL2 spL).env real tab N (n0 + 8)) N Tryz.f95 α [.int .i64 x, .int .i64 y, .int .i64 how] k =
    by4 how (fun how => bif okB x && okB y then bif fxB (prP x y how) then k (i2 (sg (xorB (ngB x) (ngB y)) (prP x y how)) 0) else k (i2 0 4) else k (i2 0 2)) (k (i2 0 2)) := by kernel_rfl
--FIN fmul | besom/fixed.Mul | (x y how : Int) | $I{x}, $I{y}, $I{how} | i2 (mpV x y how) (mpE x y how)
theorem fmul_fin (x y how : Int) (hs : ∀ c ∈ ([.int .i64 x, .int .i64 y, .int .i64 how] : List AVal), Sm c) : ∃ N n, ∀ α (k : AOut → Option α), evFn real tab ((twT fsL2 spL).env real tab N n) N Tryz.f95 α [.int .i64 x, .int .i64 y, .int .i64 how] k = k (i2 (mpV x y how) (mpE x y how)) := by
  refine ⟨8, 8, fun α k => (fmul_text 8 0 α x y how k).trans ?_⟩
  rw [by4_eq]
  unfold mpV mpE fxV fxE
  cases okB x <;> cases okB y <;> cases wayB how <;> cases fxB (prP x y how) <;> rfl
--CON fmul
noncomputable def fmulS : Fsp := fun _ args k => match args with
  | [.int .i64 x, .int .i64 y, .int .i64 how] => k (i2 (mpV x y how) (mpE x y how))
  | _ => none
theorem fmulS_ok : FspOk Tryz.prog 95 fmulS := tower_S fsL2_ok spL_ok ⟨Tryz.func95, fun _ _ => by kernel_rfl⟩ (by intro α args k; unfold fmulS; split <;> rfl) fun args out hSm hEq => by
  unfold fmulS at hEq
  split at hEq
  · rename_i x y how
    obtain ⟨N, n, e⟩ := fmul_fin x y how hSm
    exact ⟨N, n, (e AOut some).trans hEq⟩
  · cases hEq
--END
def tnY {α : Type} (m n p : Bool) (k : Int → Option α) : Option α := bif p then bif !n then k (-1) else k 1 else bif m then k (-1) else k 1
def tnZ {α : Type} (m n p q : Bool) (k : Int → Option α) : Option α := bif p then bif q then k 0 else tnY m n p k else tnY m n p k
def tnT {α : Type} (m n p q : Bool) (c c' : Int) (k : Int → Option α) : Option α := bif m == n then bif m then k c' else bif m == n then k c else tnZ m n p q k else bif m == n then k c else tnZ m n p q k
def z0 (P : Int) : Bool := hiW P == 0 && (loW P == 0 && true)
set_option maxRecDepth 100000 in
theorem fturn_text (N n0 : Nat) (α : Type) (x y u v : Int) (k : AOut → Option α) : evFn real tab ((twT fsL2 spL).env real tab N (n0 + 8)) N Tryz.f195 α [.agg [.int .i64 x, .int .i64 y], .agg [.int .i64 u, .int .i64 v]] k =
    bif [x, y, u, v].all okB then
      bif i6 x then bif i6 v then
      bif wBc (ab x) && wBc (ab v) then
      bif i6 y then bif i6 u then
      bif wBc (ab y) && wBc (ab u) then
      bif wBc (loW (ab x * ab v)) && wBc (loW (ab y * ab u)) then
        tnT (!(decide (x < 0) == decide (v < 0))) (!(decide (y < 0) == decide (u < 0))) (z0 (ab x * ab v)) (z0 (ab y * ab u)) (cmp3 (vw (hiW (ab x * ab v)) (loW (ab x * ab v))) (vw (hiW (ab y * ab u)) (loW (ab y * ab u)))) (IntKind.i64.wrap (0 - cmp3 (vw (hiW (ab x * ab v)) (loW (ab x * ab v))) (vw (hiW (ab y * ab u)) (loW (ab y * ab u))))) fun t => k (i2 t 0)
      else none else none else none else none else none else none else none
    else k (i2 0 2) := by kernel_rfl
theorem z0_eq (P : Int) : z0 P = (P == 0) := by
  unfold z0
  rw [vw_eq (h := 0) (l := 0) (by unfold Word; omega)]; rfl
theorem sg_mul (a b : Int) : sg (!(decide (a < 0) == decide (b < 0))) (ab a * ab b) = a * b := by
  unfold sg ab
  by_cases ha : a < 0 <;> by_cases hb : b < 0
  · rw [decide_eq_true ha, decide_eq_true hb, if_pos ha, if_pos hb, Int.neg_mul_neg]; rfl
  · rw [decide_eq_true ha, decide_eq_false hb, if_pos ha, if_neg hb]; simp [Int.neg_mul]
  · rw [decide_eq_false ha, decide_eq_true hb, if_neg ha, if_pos hb]; simp [Int.mul_neg]
  · rw [decide_eq_false ha, decide_eq_false hb, if_neg ha, if_neg hb]; simp
theorem tn_eq {α : Type} (m n : Bool) {P Q : Int} (hP : 0 ≤ P) (hQ : 0 ≤ Q) (k : Int → Option α) : tnT m n (P == 0) (Q == 0) (cmp3 P Q) (0 - cmp3 P Q) k = k (sgn3 (sg m P - sg n Q)) := by
  unfold tnT tnZ tnY sgn3 sg cmp3
  cases m <;> cases n
  · simp only [BEq.rfl, cond_true, cond_false]
    congr 1
    repeat' split
    all_goals first | rfl | omega
  · simp only [show (false == true) = false from rfl, cond_true, cond_false]
    by_cases h1 : P = 0
    · by_cases h2 : Q = 0
      · subst h1; subst h2; rfl
      · subst h1
        rw [show (Q == 0) = false by simpa using h2]
        simp only [BEq.rfl, cond_true, cond_false, Bool.not_true]
        rw [if_neg (by omega), if_pos (by omega)]
    · rw [show (P == 0) = false by simpa using h1]
      simp only [cond_false]
      rw [if_neg (by omega), if_pos (by omega)]
  · simp only [show (true == false) = false from rfl, cond_true, cond_false]
    by_cases h1 : P = 0
    · by_cases h2 : Q = 0
      · subst h1; subst h2; rfl
      · subst h1
        rw [show (Q == 0) = false by simpa using h2]
        simp only [BEq.rfl, cond_true, cond_false, Bool.not_false]
        rw [if_pos (by omega)]
    · rw [show (P == 0) = false by simpa using h1]
      simp only [cond_false]
      rw [if_pos (by omega)]
  · simp only [BEq.rfl, cond_true]
    congr 1
    repeat' split
    all_goals first | rfl | omega
theorem cmp3_in (a b : Int) : -1 ≤ cmp3 a b ∧ cmp3 a b ≤ 1 := by
  unfold cmp3; split
  · omega
  · split <;> omega
--FIN fturn | besom/fixed.Turn | (x y u v : Int) | $S{x y}, $S{u v} | i2 (trnV x y u v) (fourE x y u v)
theorem fturn_fin (x y u v : Int) (hs : ∀ c ∈ ([.agg [.int .i64 x, .int .i64 y], .agg [.int .i64 u, .int .i64 v]] : List AVal), Sm c) : ∃ N n, ∀ α (k : AOut → Option α), evFn real tab ((twT fsL2 spL).env real tab N n) N Tryz.f195 α [.agg [.int .i64 x, .int .i64 y], .agg [.int .i64 u, .int .i64 v]] k = k (i2 (trnV x y u v) (fourE x y u v)) := by
  refine ⟨8, 8, fun α k => (fturn_text 8 0 α x y u v k).trans ?_⟩
  rw [all4]
  unfold trnV fourE four
  cases hx : okB x
  · rfl
  cases hy : okB y
  · rfl
  cases hu : okB u
  · rfl
  cases hv : okB v
  · rfl
  have P := ab_mul_in hx hv
  have Q := ab_mul_in hy hu
  have c := cmp3_in (ab x * ab v) (ab y * ab u)
  rw [i6_ok hx, i6_ok hy, i6_ok hu, i6_ok hv, wBc_eq, wB_ab (i6_ok hx), wB_ab (i6_ok hy), wB_ab (i6_ok hu), wB_ab (i6_ok hv), lo_wB, lo_wB, vw_hl, vw_hl, z0_eq, z0_eq, i64_in (0 - cmp3 (ab x * ab v) (ab y * ab u)) (by omega)]
  simp only [Bool.and_self, cond_true]
  rw [tn_eq _ _ P.1 Q.1, sg_mul, sg_mul]
--CON fturn
noncomputable def fturnS : Fsp := fun _ args k => match args with
  | [.agg [.int .i64 x, .int .i64 y], .agg [.int .i64 u, .int .i64 v]] => k (i2 (trnV x y u v) (fourE x y u v))
  | _ => none
theorem fturnS_ok : FspOk Tryz.prog 195 fturnS := tower_S fsL2_ok spL_ok ⟨Tryz.func195, fun _ _ => by kernel_rfl⟩ (by intro α args k; unfold fturnS; split <;> rfl) fun args out hSm hEq => by
  unfold fturnS at hEq
  split at hEq
  · rename_i x y u v
    obtain ⟨N, n, e⟩ := fturn_fin x y u v hSm
    exact ⟨N, n, (e AOut some).trans hEq⟩
  · cases hEq
--END
--FS fsL3 | fsL2 | froot;flen;fmul;fturn
noncomputable def fsL3 : FuncId → Option Fsp := fun g =>
  if g = 19 then some flenS else
  if g = 95 then some fmulS else
  if g = 195 then some fturnS else
  fsL2 g
theorem fsL3_ok : FsOk fsL3 :=
  fs_cons flenS_ok <|
  fs_cons fmulS_ok <|
  fs_cons fturnS_ok <|
  fsL2_ok
--END
end Go.Proofs.YtgpljldfbhkdlaaGreat

/- Loops over rows of any data: the first place where something is so; counted rounds. -/
namespace Go.Proofs.YtgpljldfbhkdlaaGreat
open Go.RowKit

section
variable {X α σ : Type}
/-- The first place where something is so; -1: nowhere. -/
def fstX (q : X → Bool) (d : X) (xs : List X) : Int := match (List.range xs.length).find? fun i => q (xs.getD i d) with
  | some i => i
  | none => -1
theorem any_rangeX (xs : List X) (d : X) (q : X → Bool) : ((List.range xs.length).any fun i => q (xs.getD i d)) = xs.any q := by
  rw [Bool.eq_iff_iff, List.any_eq_true, List.any_eq_true]
  constructor
  · rintro ⟨i, hi, hq⟩
    have hlt := List.mem_range.1 hi
    rw [List.getD_eq_getElem?_getD, List.getElem?_eq_getElem hlt] at hq
    exact ⟨_, List.getElem_mem hlt, hq⟩
  · rintro ⟨x, hx, hq⟩
    obtain ⟨i, hlt, rfl⟩ := List.mem_iff_getElem.1 hx
    refine ⟨i, List.mem_range.2 hlt, ?_⟩
    rw [List.getD_eq_getElem?_getD, List.getElem?_eq_getElem hlt]
    exact hq
theorem fst_anyX (q : X → Bool) (d : X) (xs : List X) : decide (fstX q d xs ≥ 0) = xs.any q := by
  rw [← any_rangeX xs d]
  unfold fstX
  cases h : (List.range xs.length).find? fun i => q (xs.getD i d) with
  | none =>
    rw [List.find?_eq_none] at h
    symm
    simpa using h
  | some i =>
    have h1 := List.find?_some h
    have h2 := List.mem_of_find?_eq_some h
    rw [List.any_eq_true.2 ⟨i, h2, h1⟩]
    simp

/-- A loop that looks for the first place. -/
def findL (b N : Nat) (xs : List X) (d : X) (q : X → Bool) (R : Int → Option α) (E : Option α) : Option α :=
  afterL
    (iterL N
      (fun x : Int × Unit =>
        bif decide (x.1 < (xs.length : Int)) then
          if 0 ≤ x.1 ∧ x.1 < (xs.length : Int) then
            bif q (xs.getD x.1.toNat d) then finL (R x.1)
            else some (LRes.cont (IntKind.i64.wrap (x.1 + 1), ()))
          else none
        else some (LRes.brk b (x.1, ())))
      (0, ()))
    fun id _ => if id = b then E else none
theorem findL_eq (b : Nat) (xs : List X) (hl : xs.length ≤ maxLen) (d : X) (q : X → Bool) (R : Int → Option α) (E : Option α) : findL b (xs.length + 1) xs d q R E = bif xs.any q then R (fstX q d xs) else E := by
  unfold findL
  generalize hf : (fun x : Int × Unit => (_ : Option (LRes (Int × Unit) α))) = f
  have e : iterL (xs.length + 1) f (0, ()) = match (List.range xs.length).find? (fun i => q (xs.getD i d)) with | some i => finL (R (i : Int)) | none => some (.brk b ((xs.length : Int), ())) := by
    refine iterL_find (f := f) (fun i : Nat => ((i : Int), ())) _ (fun i => fin_not _) (brk_not _ _) xs.length (fun i hi => ?_) ?_
    · rw [← hf]
      have h1 : decide ((i : Int) < (xs.length : Int)) = true := decide_eq_true (by omega)
      simp only [h1, cond_true]
      rw [if_pos ⟨by omega, by omega⟩]
      have h2 : IntKind.i64.wrap ((i : Int) + 1) = ((i + 1 : Nat) : Int) := wrap_small (n := i + 1) (by omega)
      rw [h2]
      rfl
    · rw [← hf]
      have h1 : decide ((xs.length : Int) < (xs.length : Int)) = false := decide_eq_false (by omega)
      simp only [h1, cond_false]
  rw [e, ← fst_anyX q d]
  unfold fstX
  cases (List.range xs.length).find? fun i => q (xs.getD i d) with
  | none => exact if_pos rfl
  | some i =>
    have : decide ((i : Int) ≥ 0) = true := decide_eq_true (by omega)
    simp only [this, cond_true]
    cases R (i : Int) <;> rfl
theorem findL_idx (b : Nat) (xs : List X) (hl : xs.length ≤ maxLen) (d : X) (q : X → Bool) (k : AOut → Option α) : findL b (xs.length + 1) xs d q (fun i => k (i1 i)) (k (i1 (-1))) = k (i1 (fstX q d xs)) := by
  rw [findL_eq b xs hl, ← fst_anyX q d]
  cases h : decide (fstX q d xs ≥ 0)
  · simp only [cond_false]
    have h := of_decide_eq_false h
    unfold fstX at h ⊢
    cases hq : (List.range xs.length).find? fun i => q (xs.getD i d) with
    | none => rfl
    | some i => rw [hq] at h; simp only at h; omega
  · rfl

/-- Rounds that are counted; what comes behind them. -/
theorem count_loop {f : σ → Option (LRes σ α)} {K : Nat → σ → Option α} (st : Nat → σ) (n : Nat) {b : Nat} {y : σ} (h : ∀ i, i < n → f (st i) = some (.cont (st (i + 1)))) (hend : f (st n) = some (.brk b y)) {N : Nat} (hN : n < N) : afterL (iterL N f (st 0)) K = K b y := by
  rw [iterL_count st (brk_not b y) n h hend 0 (Nat.zero_le _) N (by omega)]
  rfl
/-- Rounds that are counted; one of them may end all. -/
theorem any_loop {f : σ → Option (LRes σ α)} {K : Nat → σ → Option α} (st : Nat → σ) (n : Nat) (p : Nat → Bool) {b : Nat} {y : σ} (R : Option α) (h : ∀ i, i < n → f (st i) = bif p i then finL R else some (.cont (st (i + 1)))) (hend : f (st n) = some (.brk b y)) : afterL (iterL (n + 1) f (st 0)) K = bif (List.range n).any p then R else K b y := by
  rw [iterL_any st p (fin_not R) (brk_not b y) n h hend]
  cases (List.range n).any p
  · rfl
  · cases R <;> rfl
/-- Rounds that are counted; the first that ends all. -/
theorem find_loop {f : σ → Option (LRes σ α)} {K : Nat → σ → Option α} (st : Nat → σ) (n : Nat) (p : Nat → Bool) {b : Nat} {y : σ} (R : Nat → Option α) (h : ∀ i, i < n → f (st i) = bif p i then finL (R i) else some (.cont (st (i + 1)))) (hend : f (st n) = some (.brk b y)) : afterL (iterL (n + 1) f (st 0)) K = match (List.range n).find? p with | some i => R i | none => K b y := by
  rw [iterL_find st p (fun i => fin_not (R i)) (brk_not b y) n h hend]
  cases (List.range n).find? p with
  | none => rfl
  | some i => cases h : R i <;> simp [afterL, finL, h]
end

theorem lt_len {i n : Nat} (h : i < n) : decide ((i : Int) < (n : Int)) = true := decide_eq_true (by omega)
theorem not_lt_len {n : Nat} : decide ((n : Int) < (n : Int)) = false := decide_eq_false (by omega)
theorem in_len {i n : Nat} (h : i < n) : 0 ≤ (i : Int) ∧ (i : Int) < (n : Int) := ⟨by omega, by omega⟩
theorem wrap_next {i n : Nat} (h : i < n) (hn : n ≤ maxLen) : IntKind.i64.wrap ((i : Int) + 1) = ((i + 1 : Nat) : Int) := wrap_small (n := i + 1) (by omega)
end Go.Proofs.YtgpljldfbhkdlaaGreat
