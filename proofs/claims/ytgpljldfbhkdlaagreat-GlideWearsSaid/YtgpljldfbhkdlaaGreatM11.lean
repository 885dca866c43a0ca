/- Parts of the proof, in build order. -/
import Derived.Test.YtgpljldfbhkdlaaGreatM9
import Derived.Test.YtgpljldfbhkdlaaGreatM10
import Derived.Test.YtgpljldfbhkdlaaGreatM7
import Derived.Test.YtgpljldfbhkdlaaGreatM8
namespace Go.Proofs.YtgpljldfbhkdlaaGreat
open Go.RowKit
def rrB (a : List Int) : Bool := isD a && decide (vl a < 332306998946228968225951765070086144)
def rqBody {α : Type} (a : List Int) (n b m : Int) : Option (LRes (Int × Int × Unit) α) :=
  bif decide (b > 0) then
    bif decide (0 ≤ m) && decide (m ≤ 9223372036854775807) then
      bif isD (dg m) && isD (dg m) then
        bif isD (dg (vl (dg m) * vl (dg m))) && isD a then
          bif decide (cmp3 (vl (dg (vl (dg m) * vl (dg m)))) (vl a) ≤ 0) then some (LRes.cont (m, IntKind.i64.wrap (b.tdiv 2), ()))
          else some (LRes.cont (n, IntKind.i64.wrap (b.tdiv 2), ()))
        else none
      else none
    else none
  else some (LRes.brk 0 (n, b, ()))
def rqE (L : Nat) : Int := if IntKind.i64.wrap (IntKind.i64.wrap ((IntKind.i64.wrap (15 * (L : Int))).tdiv 2) + 1) < 58 then IntKind.i64.wrap (IntKind.i64.wrap ((IntKind.i64.wrap (15 * (L : Int))).tdiv 2) + 1) else 58
abbrev nbO (n : Int) (b : Bool) : AOut := .ret (.tup [.int .i64 n, .bool b])
def rqEnd {α : Type} (a : List Int) (y : Int) (k : AOut → Option α) : Option α :=
  bif decide (0 ≤ y) && decide (y ≤ 9223372036854775807) then
    bif isD (dg y) && isD (dg y) then
      bif isD (dg (vl (dg y) * vl (dg y))) && isD a then k (nbO y (cmp3 (vl (dg (vl (dg y) * vl (dg y)))) (vl a) == 0))
      else none
    else none
  else none
set_option maxRecDepth 100000 in
theorem rroot_text (N n0 : Nat) (α : Type) (a : List Int) (k : AOut → Option α) : evFn real tab ((twY fnR1 spL).env real tab N (n0 + 8)) N Tryz.f192 α [.ro (.int .i64) a] k =
 if rqE a.length < 0 then none else afterL (iterL N (fun x : Int × Int × Unit => rqBody a x.1 x.2.1 (IntKind.i64.wrap (x.1 + x.2.1))) (0, IntKind.i64.wrap (1 * 2 ^ min (rqE
 a.length).toNat 64), ())) fun id y => if id = 0 then rqEnd a y.1 k else none := by kernel_rfl
def rqN (L : Nat) : Nat := min 58 (15 * L / 2 + 1)
theorem rq_is : ∀ L, L < 13 → (¬ rqE L < 0) ∧ IntKind.i64.wrap (1 * 2 ^ min (rqE L).toNat 64) = ((2 ^ (rqN L + 1) / 2 : Nat) : Int) ∧ (rqN L = 58 ∨ 32768 ^ L ≤ 2 ^ (rqN L + 1) * 2 ^ (rqN L + 1)) ∧ rqN L ≤ 58 := by decide +kernel
theorem rr_bs {a : List Int} (h : rrB a = true) : rtP (vl a) (2 ^ (rqN a.length + 1)) = false ∧ ((bs (rtP (vl a)) (rqN a.length + 1) 0 : Nat) : Int) = rt (vl a) ∧ bs (rtP (vl a)) (rqN a.length + 1) 0 < 2 ^ 59 := by
  simp only [rrB, Bool.and_eq_true, decide_eq_true_eq] at h
  obtain ⟨hD, hv⟩ := h
  have h0 := (isD_iff.1 hD).2.1
  obtain ⟨_, _, c, d⟩ := rq_is a.length (by have := isD_len hD; omega)
  have lt := vl_lt (isD_low hD)
  have np : rtP (vl a) (2 ^ (rqN a.length + 1)) = false := by
    simp only [rtP, decide_eq_false_iff_not]
    rw [← Int.natCast_mul]
    rcases c with c | c
    · rw [c]
      have : ((2 ^ (58 + 1) * 2 ^ (58 + 1) : Nat) : Int) = 332306998946228968225951765070086144 := rfl
      rw [this]; omega
    · have : ((32768 ^ a.length : Nat) : Int) = (32768 : Int) ^ a.length := by simp
      omega
  have p0 : rtP (vl a) 0 = true := by simp only [rtP, decide_eq_true_eq]; omega
  have np' : rtP (vl a) (0 + 2 ^ (rqN a.length + 1)) = false := by rw [Nat.zero_add]; exact np
  have np63 : rtP (vl a) (0 + 2 ^ 63) = false := by
    simp only [rtP, decide_eq_false_iff_not]
    have : ((0 + 2 ^ 63 : Nat) : Int) * ((0 + 2 ^ 63 : Nat) : Int) = 85070591730234615865843651857942052864 := rfl
    rw [this]; omega
  obtain ⟨e1, e2, e3, e4⟩ := bs_spec (rtP (vl a)) (fun m n => rtP_anti m n) _ 0 p0 np'
  refine ⟨np, ?_, ?_⟩
  · rw [rt_bs, bs_eq (rtP (vl a)) (fun m n => rtP_anti m n) p0 np63 e1 e2]
  · have : 2 ^ (rqN a.length + 1) ≤ 2 ^ 59 := Nat.pow_le_pow_right (by omega) (by omega)
    omega
theorem rq_loop {α : Type} {a : List Int} (h : rrB a = true) (K : Nat → Int × Int × Unit → Option α) {N : Nat} (hN : 60 < N) :
    afterL (iterL N (fun x : Int × Int × Unit => rqBody a x.1 x.2.1 (IntKind.i64.wrap (x.1 + x.2.1))) (0, ((2 ^ (rqN a.length + 1) / 2 : Nat) : Int), ())) K = K 0 (rt (vl a), 0, ()) := by
  obtain ⟨np, eb, _⟩ := rr_bs h
  have h' := h
  simp only [rrB, Bool.and_eq_true, decide_eq_true_eq] at h'
  obtain ⟨hD, hv⟩ := h'
  have h0 := (isD_iff.1 hD).2.1
  obtain ⟨_, _, _, d⟩ := rq_is a.length (by have := isD_len hD; omega)
  have hle : 2 ^ (rqN a.length + 1) ≤ 2 ^ 59 := Nat.pow_le_pow_right (by omega) (by omega)
  have e := bit_searchK (f := fun x : Int × Int × Unit => rqBody (α := α) a x.1 x.2.1 (IntKind.i64.wrap (x.1 + x.2.1))) 0 (rtP (vl a)) (rqN a.length + 1) (fun n k a1 a2 a3 => ?_) (fun n => rfl) (rqN a.length + 1) 0 (Nat.zero_mod _) (by omega) (by simp only [rtP, decide_eq_true_eq]; omega) N (by omega)
  · have e' : iterL N (fun x : Int × Int × Unit => rqBody (α := α) a x.1 x.2.1 (IntKind.i64.wrap (x.1 + x.2.1))) (0, ((2 ^ (rqN a.length + 1) / 2 : Nat) : Int), ()) = some (.brk 0 (((bs (rtP (vl a)) (rqN a.length + 1) 0 : Nat) : Int), 0, ())) := e
    rw [e', eb]
    rfl
  · have p59 : (2 : Nat) ^ 59 = 576460752303423488 := rfl
    have hk : 2 ^ (k + 1) = 2 ^ k + 2 ^ k := by rw [Nat.pow_succ]; omega
    have hpos : 0 < 2 ^ k := Nat.two_pow_pos k
    have hw : IntKind.i64.wrap ((n : Int) + ((2 ^ k : Nat) : Int)) = ((n + 2 ^ k : Nat) : Int) := by rw [i64_in _ (by omega)]; omega
    have hsh : IntKind.i64.wrap ((((2 ^ k : Nat) : Int)).tdiv 2) = ((2 ^ k / 2 : Nat) : Int) := by
      rw [Int.tdiv_eq_ediv_of_nonneg (by omega), i64_in _ (by omega)]; omega
    have hm : (0 : Int) ≤ ((n + 2 ^ k : Nat) : Int) ∧ ((n + 2 ^ k : Nat) : Int) ≤ 576460752303423488 := by omega
    have hp : rtP (vl a) (n + 2 ^ k) = decide (((n + 2 ^ k : Nat) : Int) * ((n + 2 ^ k : Nat) : Int) ≤ vl a) := rfl
    have m2 := i7_D.sq_in' hm.1 hm.2
    have hpos2 : ((2 ^ k : Nat) : Int) > 0 := by omega
    show rqBody a (n : Int) ((2 ^ k : Nat) : Int) (IntKind.i64.wrap ((n : Int) + ((2 ^ k : Nat) : Int))) = _
    unfold rqBody
    rw [decide_eq_true hpos2, hw, hsh, hp]
    generalize hme : ((n + 2 ^ k : Nat) : Int) = m at *
    rw [decide_eq_true hm.1, decide_eq_true (show m ≤ 9223372036854775807 by omega), isD_dg (n := m) ⟨hm.1, by omega⟩, vl_dg _ hm.1, isD_dg (n := m * m) ⟨m2.1, by omega⟩, vl_dg _ m2.1, hD]
    simp only [Bool.and_self, cond_true]
    by_cases hq : m * m ≤ vl a
    · rw [decide_eq_true (cmp3_le0.2 hq), decide_eq_true hq]
      simp only [cond_true]
      rw [← hme]
    · rw [decide_eq_false (fun c => hq (cmp3_le0.1 c)), decide_eq_false hq]
      rfl
theorem rt_in {a : List Int} (h : rrB a = true) : 0 ≤ rt (vl a) ∧ rt (vl a) < 576460752303423488 := by
  obtain ⟨_, eb, lt⟩ := rr_bs h
  have p59 : (2 : Nat) ^ 59 = 576460752303423488 := rfl
  omega
theorem cmp3_eq0 (a b : Int) : (cmp3 a b == 0) = (a == b) := by
  unfold cmp3
  rw [Bool.eq_iff_iff]
  simp only [beq_iff_eq]
  split <;> (try split) <;> omega
theorem rroot_fin (a : List Int) (hs : ∀ qSm ∈ ([.ro (.int .i64) a] : List AVal), Sm qSm) (hCo : (rrB a) = true) : ∃ N n, ∀ α (k : AOut → Option α), evFn real tab ((twY fnR1 spL).env real tab N n) N Tryz.f192 α [.ro (.int .i64) a] k = k (nbO (rt (vl a)) (rt (vl a) * rt (vl a) == vl a)) := by
  refine ⟨61, 8, fun α k => (rroot_text 61 0 α a k).trans ?_⟩
  have hCo' := hCo
  simp only [rrB, Bool.and_eq_true, decide_eq_true_eq] at hCo'
  obtain ⟨hD, hv⟩ := hCo'
  obtain ⟨c1, c2, _⟩ := rq_is a.length (by have := isD_len hD; omega)
  obtain ⟨r0, r1⟩ := rt_in hCo
  have m2 := i7_D.sq_in' r0 (show rt (vl a) ≤ 576460752303423488 by omega)
  rw [if_neg c1, c2, rq_loop hCo _ (by omega), if_pos rfl]
  unfold rqEnd
  rw [decide_eq_true r0, decide_eq_true (show rt (vl a) ≤ 9223372036854775807 by omega), isD_dg (n := rt (vl a)) ⟨r0, by omega⟩, vl_dg _ r0, isD_dg (n := rt (vl a) * rt (vl a)) ⟨m2.1, by omega⟩, vl_dg _ m2.1, hD, cmp3_eq0]
  rfl
noncomputable def rrootS : Fsp := fun _ args k => match args with
  | [.ro (.int .i64) a] => bif rrB a then (k (nbO (rt (vl a)) (rt (vl a) * rt (vl a) == vl a))) else none
  | _ => none
theorem rrootS_ok : FspOk Tryz.prog 192 rrootS := tower_Y fnR1_ok spL_ok ⟨Tryz.func192, fun _ _ => by kernel_rfl⟩ (by intro α args k; unfold rrootS; split <;> simp only [cond_bind, Option.bind_some, Option.bind_none]) fun args out hSm hEq => by
  unfold rrootS at hEq
  split at hEq
  · rename_i a
    cases hc : rrB a
    · rw [hc] at hEq; cases hEq
    · rw [hc] at hEq
      obtain ⟨N, n, e⟩ := rroot_fin a hSm hc
      exact ⟨N, n, (e AOut some).trans hEq⟩
  · cases hEq
noncomputable def fnR2 : FuncId → Option Fsp := fun g =>
  if g = 192 then some rrootS else
  fnR1 g
theorem fnR2_ok : FsOk fnR2 :=
  fs_cons rrootS_ok <|
  fnR1_ok
def roT {α : Type} (a : List Int) (n v : Int) (k : AOut → Option α) : Option α :=
  bif decide (0 ≤ IntKind.i64.wrap (IntKind.i64.wrap (2 * n) + 1)) && decide (IntKind.i64.wrap (IntKind.i64.wrap (2 * n) + 1) ≤ 9223372036854775807) then
    bif isD a && isD (dg (IntKind.i64.wrap (1 * 2 ^ min (Int.toNat 2) 64))) then
      bif isD (dg (IntKind.i64.wrap (IntKind.i64.wrap (2 * n) + 1))) && isD (dg (IntKind.i64.wrap (IntKind.i64.wrap (2 * n) + 1))) then
        bif isD (dg (v * vl (dg (IntKind.i64.wrap (1 * 2 ^ min (Int.toNat 2) 64))))) && isD (dg (vl (dg (IntKind.i64.wrap (IntKind.i64.wrap (2 * n) + 1))) * vl (dg (IntKind.i64.wrap (IntKind.i64.wrap (2 * n) + 1))))) then
          bif decide (cmp3 (vl (dg (v * vl (dg (IntKind.i64.wrap (1 * 2 ^ min (Int.toNat 2) 64)))))) (vl (dg (vl (dg (IntKind.i64.wrap (IntKind.i64.wrap (2 * n) + 1))) * vl (dg (IntKind.i64.wrap (IntKind.i64.wrap (2 * n) + 1)))))) ≥ 0) then k (nbO (IntKind.i64.wrap (n + 1)) true)
          else k (nbO n true)
        else none
      else none
    else none
  else none
set_option maxRecDepth 100000 in
theorem rrooted_text (N n0 : Nat) (α : Type) (a : List Int) (how : Int) (k : AOut → Option α) : evFn real tab ((twY fnR2 spL).env real tab N (n0 + 8)) N Tryz.f167 α [.ro (.int .i64) a, .int .i64 how] k =
 bif rrB a then bif how == 2 then bif how == 3 then roT a (rt (vl a)) (vl a) k else bif !(rt (vl a) * rt (vl a) == vl a) then k (nbO (IntKind.i64.wrap (rt (vl a) + 1)) true) else k
 (nbO (rt (vl a)) true) else bif how == 3 then roT a (rt (vl a)) (vl a) k else k (nbO (rt (vl a)) true) else none := by kernel_rfl
theorem roT_fin {α : Type} {a : List Int} {n v : Int} (ha : isD a = true) (hn : 0 ≤ n ∧ n < 576460752303423488) (hv : 0 ≤ v ∧ v < 332306998946228968225951765070086144) (k : AOut → Option α) : roT a n v k = k (nbO (n + (bif decide ((2 * n + 1) * (2 * n + 1) ≤ 4 * v) then 1 else 0)) true) := by
  have two : IntKind.i64.wrap (1 * 2 ^ min (Int.toNat 2) 64) = 4 := by decide
  have m2 := i7_D.sq_in' (x := 2 * n + 1) (B := 1152921504606846976) (by omega) (by omega)
  unfold roT
  rw [i64_in (2 * n) (by omega), i64_in (2 * n + 1) (by omega), i64_in (n + 1) (by omega), two, decide_eq_true (show 0 ≤ 2 * n + 1 by omega), decide_eq_true (show 2 * n + 1 ≤ 9223372036854775807 by omega), ha, isD_dg (n := 4) ⟨by omega, by omega⟩, isD_dg (n := 2 * n + 1) ⟨by omega, by omega⟩, vl_dg 4 (by omega), vl_dg (2 * n + 1) (by omega), isD_dg (n := v * 4) ⟨by omega, by omega⟩, isD_dg (n := (2 * n + 1) * (2 * n + 1)) ⟨m2.1, by omega⟩, vl_dg (v * 4) (by omega), vl_dg _ m2.1]
  simp only [Bool.and_self, cond_true]
  by_cases h : (2 * n + 1) * (2 * n + 1) ≤ 4 * v
  · rw [decide_eq_true h, decide_eq_true (cmp3_ge.2 (show (2 * n + 1) * (2 * n + 1) ≤ v * 4 by omega))]
    rfl
  · rw [decide_eq_false h, decide_eq_false (fun c => h (by have := cmp3_ge.1 c; omega)), cond_false, cond_false, Int.add_zero]
theorem rrooted_fin (a : List Int) (how : Int) (hs : ∀ qSm ∈ ([.ro (.int .i64) a, .int .i64 how] : List AVal), Sm qSm) (hCo : (rrB a) = true) : ∃ N n, ∀ α (k : AOut → Option α), evFn real tab ((twY fnR2 spL).env real tab N n) N Tryz.f167 α [.ro (.int .i64) a, .int .i64 how] k = k (nbO (rtN (vl a) how) true) := by
  refine ⟨8, 8, fun α k => (rrooted_text 8 0 α a how k).trans ?_⟩
  obtain ⟨r0, r1⟩ := rt_in hCo
  have hCo' := hCo
  simp only [rrB, Bool.and_eq_true, decide_eq_true_eq] at hCo'
  have h0 := (isD_iff.1 hCo'.1).2.1
  rw [hCo, cond_true, roT_fin hCo'.1 ⟨r0, r1⟩ ⟨h0, hCo'.2⟩ k, i64_in (rt (vl a) + 1) (by omega)]
  unfold rtN rtUp
  by_cases h2 : how = 2
  · subst h2
    cases rt (vl a) * rt (vl a) == vl a
    · rfl
    · show k _ = k _
      simp
  · rw [beq_eq_false_iff_ne.2 h2, if_neg h2, cond_false]
    by_cases h3 : how = 3
    · subst h3
      rfl
    · rw [beq_eq_false_iff_ne.2 h3, if_neg h3, cond_false, cond_false, Int.add_zero]
noncomputable def rrootedS : Fsp := fun _ args k => match args with
  | [.ro (.int .i64) a, .int .i64 how] => bif rrB a then (k (nbO (rtN (vl a) how) true)) else none
  | _ => none
theorem rrootedS_ok : FspOk Tryz.prog 167 rrootedS := tower_Y fnR2_ok spL_ok ⟨Tryz.func167, fun _ _ => by kernel_rfl⟩ (by intro α args k; unfold rrootedS; split <;> simp only [cond_bind, Option.bind_some, Option.bind_none]) fun args out hSm hEq => by
  unfold rrootedS at hEq
  split at hEq
  · rename_i a how
    cases hc : rrB a
    · rw [hc] at hEq; cases hEq
    · rw [hc] at hEq
      obtain ⟨N, n, e⟩ := rrooted_fin a how hSm hc
      exact ⟨N, n, (e AOut some).trans hEq⟩
  · cases hEq
noncomputable def fnR3 : FuncId → Option Fsp := fun g =>
  if g = 167 then some rrootedS else
  fnR2 g
theorem fnR3_ok : FsOk fnR3 :=
  fs_cons rrootedS_ok <|
  fnR2_ok
theorem ft_fx {n : Int} (h : 0 ≤ n) : ftV n true = fxV false n ∧ ftE n true = fxE n := by
  have : okB n = fxB n := by
    rw [Bool.eq_iff_iff, ok_iff]; simp only [fxB, decide_eq_true_eq]; omega
  unfold ftV ftE fxV fxE
  rw [this]
  exact ⟨rfl, rfl⟩
theorem rt_nn (s : Int) : 0 ≤ rt s := by rw [rt_C]; exact Int.natCast_nonneg _
theorem rtN_nn (s how : Int) : 0 ≤ rtN s how := by
  have := rt_nn s
  unfold rtN
  cases rtUp s how <;> simp only [cond_true, cond_false] <;> omega
noncomputable def rRootS : Fsp := fun _ args k => match args with
  | [.int .i64 x, .int .i64 how] => k (i2 (rootV x how) (rootE x how))
  | _ => none
noncomputable def fnR4 : FuncId → Option Fsp := fun g =>
  fnR3 g
theorem fnR4_ok : FsOk fnR4 :=
  fnR3_ok
end Go.Proofs.YtgpljldfbhkdlaaGreat

namespace Go.Proofs.YtgpljldfbhkdlaaGreat
open Go.RowKit
set_option maxRecDepth 100000 in
theorem rlen_text (N n0 : Nat) (α : Type) (x y how : Int) (k : AOut → Option α) : evFn real tab ((twY fnR3 spL).env real tab N (n0 + 8)) N Tryz.f113 α [.agg [.int .i64 x, .int .i64 y], .int .i64 how] k =
 bif okB x then bif !okB y then k (AOut.ret (AVal.tup [AVal.int IntKind.i64 0, AVal.int IntKind.i64 2])) else bif !wayB how then k (AOut.ret (AVal.tup [AVal.int IntKind.i64 0,
 AVal.int IntKind.i64 2])) else bif i7 x && i7 y then bif rrB (dg (sq2 x y)) then k (AOut.ret (AVal.tup [AVal.int IntKind.i64 (ftV (rtN (vl (dg (sq2 x y))) how) true), AVal.int
 IntKind.i64 (ftE (rtN (vl (dg (sq2 x y))) how) true)])) else none else none else k (AOut.ret (AVal.tup [AVal.int IntKind.i64 0, AVal.int IntKind.i64 2])) := by kernel_rfl
theorem rlen_fin (x y how : Int) (hs : ∀ qSm ∈ ([.agg [.int .i64 x, .int .i64 y], .int .i64 how] : List AVal), Sm qSm) : ∃ N n, ∀ α (k : AOut → Option α), evFn real tab ((twY fnR3 spL).env real tab N n) N Tryz.f113 α [.agg [.int .i64 x, .int .i64 y], .int .i64 how] k = k (i2 (lenV x y how) (lenE x y how)) := by
  refine ⟨8, 8, fun α k => (rlen_text 8 0 α x y how k).trans ?_⟩
  unfold lenV lenE lenB
  cases hx : okB x
  · cases okB y <;> cases wayB how <;> rfl
  cases hy : okB y
  · cases wayB how <;> rfl
  cases hw : wayB how
  · rfl
  have x7 := i7_ok hx; have y7 := i7_ok hy
  rw [ok_iff] at hx hy
  have ax : 0 ≤ ab x ∧ ab x ≤ 70368744177664 := by unfold ab; split <;> omega
  have ay : 0 ≤ ab y ∧ ab y ≤ 70368744177664 := by unfold ab; split <;> omega
  have m1 := mul_in ax ax
  have m2 := mul_in ay ay
  have hs : 0 ≤ sq2 x y ∧ sq2 x y < 332306998946228968225951765070086144 := by unfold sq2; omega
  have d : isD (dg (sq2 x y)) = true := isD_dg ⟨hs.1, by omega⟩
  have b : rrB (dg (sq2 x y)) = true := by
    unfold rrB
    rw [d, vl_dg _ hs.1, decide_eq_true hs.2]; rfl
  obtain ⟨f1, f2⟩ := ft_fx (rtN_nn (sq2 x y) how)
  rw [x7, y7, b, vl_dg _ hs.1, f1, f2]
  rfl
noncomputable def rlenS : Fsp := fun _ args k => match args with
  | [.agg [.int .i64 x, .int .i64 y], .int .i64 how] => k (i2 (lenV x y how) (lenE x y how))
  | _ => none
theorem rlenS_ok : FspOk Tryz.prog 113 rlenS := tower_Y fnR3_ok spL_ok ⟨Tryz.func113, fun _ _ => by kernel_rfl⟩ (by intro α args k; unfold rlenS; split <;> rfl) fun args out hSm hEq => by
  unfold rlenS at hEq
  split at hEq
  · rename_i x y how
    obtain ⟨N, n, e⟩ := rlen_fin x y how hSm
    exact ⟨N, n, (e AOut some).trans hEq⟩
  · cases hEq
set_option maxRecDepth 100000 in
theorem rleft_text (N n0 : Nat) (α : Type) (x y : Int) (k : AOut → Option α) : evFn real tab ((twY fnR3 spL).env real tab N (n0 + 8)) N Tryz.f117 α [.agg [.int .i64 x, .int .i64 y]] k =
 bif okB x then bif !okB y then k (AOut.ret (AVal.agg [AVal.int IntKind.i64 0, AVal.int IntKind.i64 0])) else k (AOut.ret (AVal.agg [AVal.int IntKind.i64 (IntKind.i64.wrap (0 - y)),
 AVal.int IntKind.i64 x])) else k (AOut.ret (AVal.agg [AVal.int IntKind.i64 0, AVal.int IntKind.i64 0])) := by kernel_rfl
set_option maxRecDepth 100000 in
theorem rmov_text (N n0 : Nat) (α : Type) (ax ay vx vy sp : Int) (k : AOut → Option α) : evFn real tab ((twY fnR3 spL).env real tab N (n0 + 8)) N Tryz.f62 α [.agg [.int .i64 ax, .int .i64 ay, .int .i64 vx, .int .i64 vy, .int .i64 sp]] k =
 bif decide (vx ≥ -65536000) then bif decide (vy ≥ -65536000) then bif decide (vx ≤ 65536000) then bif decide (vy ≤ 65536000) then bif plcB ax ay then bif decide (-1000 ≤ sp) then k
 (AOut.ret (AVal.bool (decide (sp ≤ 1000)))) else k (AOut.ret (AVal.bool false)) else k (AOut.ret (AVal.bool false)) else k (AOut.ret (AVal.bool false)) else k (AOut.ret (AVal.bool
 false)) else bif decide (vx ≤ 65536000) then k (AOut.ret (AVal.bool false)) else k (AOut.ret (AVal.bool false)) else bif decide (vy ≥ -65536000) then k (AOut.ret (AVal.bool false))
 else k (AOut.ret (AVal.bool false)) := by kernel_rfl
end Go.Proofs.YtgpljldfbhkdlaaGreat

namespace Go.Proofs.YtgpljldfbhkdlaaGreat
open Go.RowKit
theorem mulE_in (a b h : Int) : mulE a b h = 0 ∨ mulE a b h = 2 ∨ mulE a b h = 4 := by
  unfold mulE fxE
  cases mulB a b h
  · exact .inr (.inl rfl)
  · cases fxB (prN a b h)
    · exact .inr (.inr rfl)
    · exact .inl rfl
def rtimesS : Fsp := fun _ args k => match args with
  | [.agg [.int .i64 x, .int .i64 y], .int .i64 v, .int .i64 h] => k (s2 (twoV (mulE x v h) (mulE y v h) (mulV x v h)) (twoV (mulE x v h) (mulE y v h) (mulV y v h)) (twoE (mulE x v h) (mulE y v h)))
  | _ => none
def bothK {α : Type} (x e y f : Int) (k : AOut → Option α) : Option α :=
  bif e == 2 then k (s2 0 0 2)
  else
    bif f == 2 then k (s2 0 0 2)
    else
      bif e != 0 then k (s2 0 0 (if e < f then f else e))
      else bif f != 0 then k (s2 0 0 (if e < f then f else e)) else k (s2 x y 0)
theorem bothK_eq {α : Type} {x e y f : Int} (he : e = 0 ∨ e = 2 ∨ e = 4) (hf : f = 0 ∨ f = 2 ∨ f = 4) (k : AOut → Option α) : bothK x e y f k = k (s2 (twoV e f x) (twoV e f y) (twoE e f)) := by
  rcases he with rfl | rfl | rfl <;> rcases hf with rfl | rfl | rfl <;> rfl
theorem rtimes_text (N n0 : Nat) (α : Type) (x y v h : Int) (k : AOut → Option α) : evFn real tab ((twT fnL (fun _ => none)).env real tab N (n0 + 2)) N Tryz.f116 α [sN x y, iN v, iN h] k = bothK (mulV x v h) (mulE x v h) (mulV y v h) (mulE y v h) k := by kernel_rfl
theorem rtimesS_ok : FspOk Tryz.prog 116 rtimesS := tower_S fnL_ok sp_nil ⟨Tryz.func116, fun _ _ => by kernel_rfl⟩ (by intro α args k; unfold rtimesS; split <;> rfl) fun args out hs h => by
  unfold rtimesS at h
  split at h
  · rename_i x y v w
    exact ⟨1, 2, (rtimes_text 1 0 AOut x y v w some).trans ((bothK_eq (mulE_in ..) (mulE_in ..) _).trans h)⟩
  · cases h
noncomputable def fnM : FuncId → Option Fsp := fun g =>
  if g = 116 then some rtimesS else
  fnL g
theorem fnM_ok : FsOk fnM :=
  fs_cons rtimesS_ok <|
  fnL_ok
end Go.Proofs.YtgpljldfbhkdlaaGreat

namespace Go.Proofs.YtgpljldfbhkdlaaGreat
open Go.RowKit
def glPanic (e : Int) : List PanicEntry := [{ v := .iface 141 (.agg #[.int .i64 e]), recovered := false }]
theorem glassert_yes (c : Int) (w : World) : (Instr.typeAssert (.iface 141 (.agg #[.int .i64 c])) 20 141 true).run Tryz.prog w = .ok (.tuple #[.agg #[.int .i64 c], .bool true]) w := by kernel_rfl
theorem glassert_nil (w : World) : (Instr.typeAssert .nilIface 20 141 true).run Tryz.prog w = .ok (.tuple #[.agg #[.int .i64 0], .bool false]) w := by kernel_rfl
theorem gltried1_panic (b : Nat) (x c : Int) (w : World) (hp : w.cell? ⟨b, 0, none⟩ = some (.int .i64 x)) (fp : w.frozen? ⟨b, 0, none⟩ = false) (hqb : b < w.heap.size) :
    CallsD Tryz.prog 86 #[.pointer (some ⟨b, 0, none⟩)] (.panicking (glPanic c)) w fun e u' w' =>
      e = .returned (.tuple #[]) ∧ u' = .panicking [{ v := .iface 141 (.agg #[.int .i64 c]), recovered := true }] ∧ w'.cell? ⟨b, 0, none⟩ = some (.int .i64 c) ∧ Exd w.heap.size b w w' := by
  refine callsD_of_wpS Tryz.func86 rfl fun c₀ cs hu => ?_
  apply wpS_seq
  apply wpS_region
  simp [wpOpsS, go_sem, recoverD, hu, glPanic, Tryz.ntmps86, Exit.thenS, Array.replicate, List.replicate]
  refine wpS_of_wp ?_
  clear hu
  have hta := fun w => glassert_yes c w
  have ha : ∀ o, Below w.heap.size w (w.alloc o) := fun o => (Below.refl _ _).alloc (Nat.le_refl _) o
  have hp' : ∀ o, (w.alloc o).cell? ⟨b, 0, none⟩ = some (.int .i64 x) := fun o => ((ha o).cell (p := ⟨b, 0, none⟩) hqb).trans hp
  have fp' : ∀ o, (w.alloc o).frozen? ⟨b, 0, none⟩ = false := fun o => ((ha o).frozen (p := ⟨b, 0, none⟩) hqb).trans fp
  clear ha
  go_wp2
  all_goals
    (try go_big_unhide)
    simp [bodyPostS, results, Tryz.results86, go_sem]
    have hz : (w.setCell ⟨b, 0, none⟩ (.int .i64 c)).heap.size = w.heap.size := by simp [World.setCell]
    have hal : ∀ o, Below w.heap.size (w.setCell ⟨b, 0, none⟩ (.int .i64 c)) ((w.setCell ⟨b, 0, none⟩ (.int .i64 c)).alloc o) := fun o => (Below.refl _ _).alloc (by rw [hz]; exact Nat.le_refl _) o
    refine ⟨((hal _).cell (p := ⟨b, 0, none⟩) hqb).trans (cellSet _ hp), Exd.trans (b := w.setCell ⟨b, 0, none⟩ (.int .i64 c)) (.set _) (Exd.of (hal _))⟩
theorem gltried1_idle (b : Nat) (w : World) :
    CallsD Tryz.prog 86 #[.pointer (some ⟨b, 0, none⟩)] .returning w fun e u' w' =>
      e = .returned (.tuple #[]) ∧ u' = .returning ∧ Below w.heap.size w w' := by
  refine callsD_of_wpS Tryz.func86 rfl fun c₀ cs hu => ?_
  apply wpS_seq
  apply wpS_region
  simp [wpOpsS, go_sem, recoverD, hu, Tryz.ntmps86, Exit.thenS, Array.replicate, List.replicate]
  refine wpS_of_wp ?_
  have hta := fun w => glassert_nil w
  go_wp2
  all_goals
    simp [bodyPostS, results, Tryz.results86, go_sem]
    exact ⟨.returning, by cases c₀; simp_all, rfl, (Below.refl _ _).alloc (Nat.le_refl _) _⟩
set_option maxHeartbeats 1000000 in
theorem gltried_ok (K : FuncId) (caps : Array Value) (Q : World → Prop) (he : ∀ w, (callFunc K caps).run Tryz.prog w = .ok (.enter K caps) w) (w : World)
    (h : ∀ w1, Below w.heap.size w w1 → w.heap.size < w1.heap.size → Calls Tryz.prog K caps w1 fun e w' => e = .returned (.tuple #[]) ∧ w'.heap[w.heap.size]? = w1.heap[w.heap.size]? ∧ w1.heap.size ≤ w'.heap.size ∧ Q w') :
    Calls Tryz.prog 46 #[.func (.func K) #[] caps] w fun e w' => e = .returned (.int .i64 0) ∧ ∃ w2, Q w2 ∧ Exd w2.heap.size w.heap.size w2 w' := by
  have hmf : ∀ (fn : Fn) (first cap : Array Value) (w : World), (Instr.makeFunc fn first cap).run Tryz.prog w = .ok (.func fn first cap) w := fun _ _ _ _ => rfl
  have HH := hidOf h
  have hcall : ∀ w, (callFunc K caps).run Tryz.prog w = .ok (.enter K caps) w := he
  clear h he
  go_enter_defers Tryz.func46, Tryz.ntmps46
  go_wp2_with (go_at_fn K; refine (HH.out _ ((Below.refl _ _).alloc (Nat.le_refl _) _) (by simp)).mono ?_; rintro e w1 ⟨rfl, hb1, hz1, hq⟩; obtain ⟨hc1, hf1⟩ := one_kept hb1; have hz : w.heap.size < w1.heap.size := (by simp at hz1; omega); have hd1 := hc1 0)
  refine leaves_cons (f := 86) (args := #[.pointer (some ⟨w.heap.size, 0, none⟩)]) (by simp) (by simp [go_sem]) ?_
  have hs : (w1.setCell ⟨w.heap.size, 0, none⟩ (.int .i64 0)).heap.size = w1.heap.size := by simp [World.setCell]
  refine (gltried1_idle w.heap.size _).mono ?_
  rintro e u' w2 ⟨rfl, rfl, hb2⟩
  rw [hs] at hb2
  have g1 : w2.cell? ⟨w.heap.size, 0, none⟩ = some (.int .i64 0) := by
    rw [hb2.cell (p := ⟨w.heap.size, 0, none⟩) hz]
    exact cellSet _ hd1
  clear HH hcall hmf hc1 hf1 hd1
  simp [Leaves, settle, results, Tryz.results46, go_sem, g1]
  exact ⟨w1, hq, Exd.trans (.set _) (Exd.of hb2)⟩
set_option maxHeartbeats 1000000 in
theorem gltried_err (K : FuncId) (caps : Array Value) (c : Int) (Q : World → Prop) (he : ∀ w, (callFunc K caps).run Tryz.prog w = .ok (.enter K caps) w) (w : World)
    (h : ∀ w1, Below w.heap.size w w1 → w.heap.size < w1.heap.size → Calls Tryz.prog K caps w1 fun e w' => e = .panicked (glPanic c) ∧ w'.heap[w.heap.size]? = w1.heap[w.heap.size]? ∧ w1.heap.size ≤ w'.heap.size ∧ Q w') :
    Calls Tryz.prog 46 #[.func (.func K) #[] caps] w fun e w' => e = .returned (.int .i64 c) ∧ ∃ w2, Q w2 ∧ Exd w2.heap.size w.heap.size w2 w' := by
  have hmf : ∀ (fn : Fn) (first cap : Array Value) (w : World), (Instr.makeFunc fn first cap).run Tryz.prog w = .ok (.func fn first cap) w := fun _ _ _ _ => rfl
  have HH := hidOf h
  have hcall : ∀ w, (callFunc K caps).run Tryz.prog w = .ok (.enter K caps) w := he
  clear h he
  go_enter_defers Tryz.func46, Tryz.ntmps46
  go_wp2_with (go_at_fn K; refine (HH.out _ ((Below.refl _ _).alloc (Nat.le_refl _) _) (by simp)).mono ?_; rintro e w1 ⟨rfl, hb1, hz1, hq⟩; obtain ⟨hc1, hf1⟩ := one_kept hb1; have hz : w.heap.size < w1.heap.size := (by simp at hz1; omega))
  refine leaves_cons (f := 86) (args := #[.pointer (some ⟨w.heap.size, 0, none⟩)]) (by simp) (by simp [go_sem]) ?_
  refine (gltried1_panic w.heap.size 0 c _ (hc1 0) (hf1 0) hz).mono ?_
  rintro e u' w2 ⟨rfl, rfl, g1, hb2⟩
  clear HH hcall hmf hc1 hf1
  simp [Leaves, settle, results, Tryz.results46, go_sem, g1]
  exact ⟨w1, hq, hb2⟩
theorem gltried_tried : TriedOk Tryz.prog 46 141 :=
  ⟨fun args w => by kernel_rfl, fun K caps Q he w h => gltried_ok K caps Q he w h, fun K caps c Q he w h => gltried_err K caps c Q he w h⟩
noncomputable def spG : FuncId → Option (Cv → Cv) := fun g =>
  if g = 46 then some (triedS 141) else
  spL g
theorem spG_ok : SpOk spG :=
  sp_cons (fun cv h caps => tried_at gltried_tried cv h caps) <|
  spL_ok
end Go.Proofs.YtgpljldfbhkdlaaGreat

namespace Go.Proofs.YtgpljldfbhkdlaaGreat
open Go.RowKit
abbrev glmis (e : Int) : AOut := .pan (.ifc 141 (.agg [iN e]))
theorem gmusS_text (N n0 : Nat) (α : Type) (x y e : Int) (k : AOut → Option α) : evFn real tab ((twY fsI12 spG).env real tab N (n0 + 8)) N Tryz.f91 α [.agg [.int .i64 x, .int .i64 y], .int .i64 e] k = bif e != 0 then k (glmis e) else k (.ret (.agg [.int .i64 x, .int .i64 y])) := by kernel_rfl
theorem gmusS_fin (x y e : Int) (hs : ∀ qSm ∈ ([.agg [.int .i64 x, .int .i64 y], .int .i64 e] : List AVal), Sm qSm) : ∃ N n, ∀ α (k : AOut → Option α), evFn real tab ((twY fsI12 spG).env real tab N n) N Tryz.f91 α [.agg [.int .i64 x, .int .i64 y], .int .i64 e] k = bif e != 0 then k (glmis e) else k (.ret (.agg [.int .i64 x, .int .i64 y])) := by
  exact ⟨8, 8, fun α k => gmusS_text 8 0 α x y e k⟩
noncomputable def gmusSS : Fsp := fun _ args k => match args with
  | [.agg [.int .i64 x, .int .i64 y], .int .i64 e] => bif e != 0 then k (glmis e) else k (.ret (.agg [.int .i64 x, .int .i64 y]))
  | _ => none
theorem gmusSS_ok : FspOk Tryz.prog 91 gmusSS := tower_Y fsI12_ok spG_ok ⟨Tryz.func91, fun _ _ => by kernel_rfl⟩ (by intro α args k; unfold gmusSS; split <;> simp only [cond_bind, Option.bind_some, Option.bind_none]) fun args out hSm hEq => by
  unfold gmusSS at hEq
  split at hEq
  · rename_i x y e
    obtain ⟨N, n, e⟩ := gmusS_fin x y e hSm
    exact ⟨N, n, (e AOut some).trans hEq⟩
  · cases hEq
theorem gmusF_text (N n0 : Nat) (α : Type) (x e : Int) (k : AOut → Option α) : evFn real tab ((twY fsI12 spG).env real tab N (n0 + 8)) N Tryz.f87 α [.int .i64 x, .int .i64 e] k = bif e != 0 then k (glmis e) else k (.ret (.int .i64 x)) := by kernel_rfl
theorem gmusF_fin (x e : Int) (hs : ∀ qSm ∈ ([.int .i64 x, .int .i64 e] : List AVal), Sm qSm) : ∃ N n, ∀ α (k : AOut → Option α), evFn real tab ((twY fsI12 spG).env real tab N n) N Tryz.f87 α [.int .i64 x, .int .i64 e] k = bif e != 0 then k (glmis e) else k (.ret (.int .i64 x)) := by
  exact ⟨8, 8, fun α k => gmusF_text 8 0 α x e k⟩
noncomputable def gmusFS : Fsp := fun _ args k => match args with
  | [.int .i64 x, .int .i64 e] => bif e != 0 then k (glmis e) else k (.ret (.int .i64 x))
  | _ => none
theorem gmusFS_ok : FspOk Tryz.prog 87 gmusFS := tower_Y fsI12_ok spG_ok ⟨Tryz.func87, fun _ _ => by kernel_rfl⟩ (by intro α args k; unfold gmusFS; split <;> simp only [cond_bind, Option.bind_some, Option.bind_none]) fun args out hSm hEq => by
  unfold gmusFS at hEq
  split at hEq
  · rename_i x e
    obtain ⟨N, n, e⟩ := gmusF_fin x e hSm
    exact ⟨N, n, (e AOut some).trans hEq⟩
  · cases hEq
noncomputable def fsG1 : FuncId → Option Fsp := fun g =>
  if g = 91 then some gmusSS else
  if g = 87 then some gmusFS else
  fsI12 g
theorem fsG1_ok : FsOk fsG1 :=
  fs_cons gmusSS_ok <|
  fs_cons gmusFS_ok <|
  fsI12_ok
end Go.Proofs.YtgpljldfbhkdlaaGreat

namespace Go.Proofs.YtgpljldfbhkdlaaGreat
open Go.RowKit
def onlyS (S : Fsp) : Fsp := fun α args k => S α args fun out => match out with
  | .ret (.tup [v, .int .i64 e]) => bif e == 0 then k (.ret (.tup [v, .int .i64 0])) else none
  | _ => none
theorem only_ok {P : Program} {f : FuncId} {S : Fsp} (h : FspOk P f S) : FspOk P f (onlyS S) := by
  have e : ∀ (α : Type) args (k : AOut → Option α), onlyS S α args k = (S AOut args some).bind fun out => match out with
      | .ret (.tup [v, .int .i64 e]) => bif e == 0 then k (.ret (.tup [v, .int .i64 0])) else none
      | _ => none := fun α args k => h.nat α args _
  refine fsp_sim h (fun α args k => ?_) fun args out hq => ?_
  · rw [e, e]
    cases S AOut args some with
    | none => rfl
    | some out =>
      simp only [Option.bind_some]
      split
      · rename_i v er
        cases er == 0 <;> rfl
      · rfl
  · rw [e] at hq
    cases hs : S AOut args some with
    | none => rw [hs] at hq; cases hq
    | some o =>
      rw [hs] at hq
      simp only [Option.bind_some] at hq
      split at hq
      · rename_i v er
        cases he : er == 0
        · rw [he] at hq; cases hq
        · rw [he] at hq
          have h0 : er = 0 := by simpa using he
          subst h0
          cases hq
          exact ⟨_, _, rfl, rfl, .refl _⟩
      · cases hq
noncomputable def fsG2 : FuncId → Option Fsp := fun g =>
  if g = 19 then some (onlyS flenS) else
  if g = 97 then some (onlyS minusPS) else
  if g = 95 then some (onlyS fmulS) else
  if g = 96 then some (onlyS plusPS) else
  if g = 89 then some (onlyS scaleS) else
  if g = 93 then some (onlyS timesS) else
  if g = 92 then some (onlyS uniS) else
  if g = 90 then some (onlyS ibendS) else
  if g = 88 then some (onlyS islowS) else
  fsG1 g
theorem fsG2_ok : FsOk fsG2 :=
  fs_cons (only_ok flenS_ok) <|
  fs_cons (only_ok minusPS_ok) <|
  fs_cons (only_ok fmulS_ok) <|
  fs_cons (only_ok plusPS_ok) <|
  fs_cons (only_ok scaleS_ok) <|
  fs_cons (only_ok timesS_ok) <|
  fs_cons (only_ok uniS_ok) <|
  fs_cons (only_ok ibendS_ok) <|
  fs_cons (only_ok islowS_ok) <|
  fsG1_ok
end Go.Proofs.YtgpljldfbhkdlaaGreat

namespace Go.Proofs.YtgpljldfbhkdlaaGreat
open Go.RowKit
def movB (ax ay vx vy sp : Int) : Bool := plcB ax ay && ((decide (-65536000 ≤ vx) && decide (vx ≤ 65536000)) && (decide (-65536000 ≤ vy) && decide (vy ≤ 65536000))) && (decide (-1000 ≤ sp) && decide (sp ≤ 1000))
set_option maxRecDepth 100000 in
theorem gcheck_text (N n0 : Nat) (α : Type) (ax ay vx vy sp : Int) (k : AOut → Option α) : evFn real tab ((twY fsG2 spG).env real tab N (n0 + 8)) N Tryz.f23 α [.agg [.int .i64 ax, .int .i64 ay, .int .i64 vx, .int .i64 vy, .int .i64 sp]] k =
 bif decide (IntKind.i64.wrap (0 - 6553600000) ≤ ax) then bif decide (ax ≤ 6553600000) then bif decide (IntKind.i64.wrap (0 - 6553600000) ≤ ay) then bif !decide (ay ≤ 6553600000)
 then k (i1 2) else bif decide (IntKind.i64.wrap (0 - 65536000) ≤ vx) then bif decide (vx ≤ 65536000) then bif decide (IntKind.i64.wrap (0 - 65536000) ≤ vy) then bif !decide (vy ≤
 65536000) then k (i1 2) else bif decide (-1000 ≤ sp) then bif !decide (sp ≤ 1000) then k (i1 2) else k (i1 0) else k (i1 2) else k (i1 2) else k (i1 2) else k (i1 2) else k (i1 2)
 else k (i1 2) else k (i1 2) := by kernel_rfl
theorem gcheck_fin (ax ay vx vy sp : Int) (hs : ∀ qSm ∈ ([.agg [.int .i64 ax, .int .i64 ay, .int .i64 vx, .int .i64 vy, .int .i64 sp]] : List AVal), Sm qSm) : ∃ N n, ∀ α (k : AOut → Option α), evFn real tab ((twY fsG2 spG).env real tab N n) N Tryz.f23 α [.agg [.int .i64 ax, .int .i64 ay, .int .i64 vx, .int .i64 vy, .int .i64 sp]] k = k (i1 (er2 (movB ax ay vx vy sp))) := by
  refine ⟨8, 8, fun α k => (gcheck_text 8 0 α ax ay vx vy sp k).trans ?_⟩
  have e1 : IntKind.i64.wrap (0 - 6553600000) = -6553600000 := by decide
  have e2 : IntKind.i64.wrap (0 - 65536000) = -65536000 := by decide
  rw [e1, e2]
  unfold movB plcB
  cases decide (-6553600000 ≤ ax) <;> cases decide (ax ≤ 6553600000) <;> cases decide (-6553600000 ≤ ay) <;> cases decide (ay ≤ 6553600000) <;> first
    | rfl
    | (cases decide (-65536000 ≤ vx) <;> cases decide (vx ≤ 65536000) <;> cases decide (-65536000 ≤ vy) <;> cases decide (vy ≤ 65536000) <;> cases decide (-1000 ≤ sp) <;> cases decide (sp ≤ 1000) <;> rfl)
noncomputable def gcheckS : Fsp := fun _ args k => match args with
  | [.agg [.int .i64 ax, .int .i64 ay, .int .i64 vx, .int .i64 vy, .int .i64 sp]] => k (i1 (er2 (movB ax ay vx vy sp)))
  | _ => none
theorem gcheckS_ok : FspOk Tryz.prog 23 gcheckS := tower_Y fsG2_ok spG_ok ⟨Tryz.func23, fun _ _ => by kernel_rfl⟩ (by intro α args k; unfold gcheckS; split <;> rfl) fun args out hSm hEq => by
  unfold gcheckS at hEq
  split at hEq
  · rename_i ax ay vx vy sp
    obtain ⟨N, n, e⟩ := gcheck_fin ax ay vx vy sp hSm
    exact ⟨N, n, (e AOut some).trans hEq⟩
  · cases hEq
noncomputable def fsG3 : FuncId → Option Fsp := fun g =>
  if g = 23 then some gcheckS else
  fsG2 g
theorem fsG3_ok : FsOk fsG3 :=
  fs_cons gcheckS_ok <|
  fsG2_ok
end Go.Proofs.YtgpljldfbhkdlaaGreat

namespace Go.Proofs.YtgpljldfbhkdlaaGreat
open Go.RowKit
section
variable {α : Type}
abbrev mvO (ax ay vx vy sp : Int) : AOut := .ret (.agg [iN ax, iN ay, iN vx, iN vy, iN sp])
noncomputable def tk4 (ax ay sp VX VY : Int) (k : AOut → Option α) : Option α :=
  bif plE ax ay VX VY == 0 then
    bif er2 (movB (plX ax ay VX VY) (plY ax ay VX VY) VX VY sp) != 0 then k (glmis 4) else k (mvO (plX ax ay VX VY) (plY ax ay VX VY) VX VY sp)
  else none
noncomputable def tk3 (ax ay vx vy sp bx by' sx sy : Int) (k : AOut → Option α) : Option α :=
  bif miE vx vy bx by' == 0 then
    bif plE (miX vx vy bx by') (miY vx vy bx by') sx sy == 0 then
      tk4 ax ay sp (plX (miX vx vy bx by') (miY vx vy bx by') sx sy) (plY (miX vx vy bx by') (miY vx vy bx by') sx sy) k
    else none
  else none
noncomputable def tk2 (ax ay vx vy sp B C bx by' lx ly : Int) (k : AOut → Option α) : Option α :=
  bif mpE B C 0 == 0 then
    bif tiE lx ly (mpV B C 0) 0 == 0 then tk3 ax ay vx vy sp bx by' (tiV lx ly (mpV B C 0) 0 lx) (tiV lx ly (mpV B C 0) 0 ly) k else none
  else none
noncomputable def tk1 (ax ay vx vy sp B C ux uy : Int) (k : AOut → Option α) : Option α :=
  bif uniE vx vy == 0 then
    bif tiE ux uy B 0 == 0 then
      bif [ux].all okB then
        bif [uy].all okB then tk2 ax ay vx vy sp B C (tiV ux uy B 0 ux) (tiV ux uy B 0 uy) (IntKind.i64.wrap (0 - uy)) ux k
        else tk2 ax ay vx vy sp B C (tiV ux uy B 0 ux) (tiV ux uy B 0 uy) 0 0 k
      else tk2 ax ay vx vy sp B C (tiV ux uy B 0 ux) (tiV ux uy B 0 uy) 0 0 k
    else none
  else none
noncomputable def tk0 (ax ay vx vy sp n sE slow bend : Int) (k : AOut → Option α) : Option α :=
  bif sE == 0 then
    bif slE slow (IntKind.i64.wrap (5000 - n)) 5000 3 == 0 then
      bif lenE vx vy 1 == 0 then
        bif decide (lenV vx vy 1 ≤ slV slow (IntKind.i64.wrap (5000 - n)) 5000 3) then k (mvO ax ay 0 0 0)
        else bif sE == 0 then
          bif slE bend (IntKind.i64.wrap (2000 - n)) 2000 3 == 0 then
            bif slE (slV bend (IntKind.i64.wrap (2000 - n)) 2000 3) sp 1000 0 == 0 then
              tk1 ax ay vx vy sp (slV slow (IntKind.i64.wrap (5000 - n)) 5000 3) (slV (slV bend (IntKind.i64.wrap (2000 - n)) 2000 3) sp 1000 0) (uniV vx vy vx) (uniV vx vy vy) k
            else none
          else none
        else none
      else none
    else none
  else none
end
set_option maxRecDepth 100000 in
theorem gtick_text (N n0 : Nat) (α : Type) (cx cy sd w h : Int) (pb po : List Int) (fl ke sw be we : Int) (ax ay vx vy sp : Int) (n : Int) (k : AOut → Option α) : evFn real tab ((twY fsG3 spG).env real tab N (n0 + 8)) N Tryz.f48 α [.agg [.int .i64 cx, .int .i64 cy, .int .i64 sd, .int .i64 w, .int .i64 h, .ro (.int .i64) pb, .ro (.int .i64) po, .int .i64 fl, .int .i64 ke, .int .i64 sw, .int .i64 be, .int .i64 we], .agg [.int .i64 ax, .int .i64 ay, .int .i64 vx, .int .i64 vy, .int .i64 sp], .int .i64 n] k =
 tk0 ax ay vx vy sp n (slwE cx cy sd w h pb po fl ke sw be we ax ay) (slwV cx cy sd w h pb po fl ke sw be we ax ay) (bdvV cx cy sd w h pb po fl ke sw be we ax ay) k := by kernel_rfl
end Go.Proofs.YtgpljldfbhkdlaaGreat

namespace Go.Proofs.YtgpljldfbhkdlaaGreat
open Go.RowKit
def cutP (a b : Int) : Int := sg (xorB (ngB a) (ngB b)) (ab a * ab b / 65536)
theorem cut_sz (a b : Int) : ab (cutP a b) = ab a * ab b / 65536 := ab_sg _ (Int.ediv_nonneg (Int.mul_nonneg (ab_nn a) (ab_nn b)) (by omega))
theorem cut_in {a b B : Int} (ha : -65536 ≤ a ∧ a ≤ 65536) (hb : -B ≤ b ∧ b ≤ B) : -B ≤ cutP a b ∧ cutP a b ≤ B := by
  rw [← ab_le, cut_sz]
  have h1 : ab a * ab b ≤ ab b * 65536 := by rw [Int.mul_comm (ab b)]; exact Int.mul_le_mul_of_nonneg_right (ab_le.2 ha) (ab_nn b)
  have h2 := div_le (show (0 : Int) < 65536 by omega) h1
  have h3 := ab_le.2 hb
  omega
theorem pr_cut2 {a b : Int} (ha : -1048576 ≤ a ∧ a ≤ 1048576) (hb : -1048576 ≤ b ∧ b ≤ 1048576) : prP a b 0 = ab a * ab b / 65536 ∧ prN a b 0 = ab a * ab b / 65536 ∧ fxB (ab a * ab b / 65536) = true := by
  have h := mul_in ⟨ab_nn a, ab_le.2 ha⟩ ⟨ab_nn b, ab_le.2 hb⟩
  refine ⟨?_, ?_, ?_⟩
  · unfold prP
    rw [rndP_small h.1 (by omega) (by omega), rnd_cut]
  · unfold prN
    rw [rnd_cut]
  · exact decide_eq_true (by omega)
theorem mp_cut {a b : Int} (ha : -1048576 ≤ a ∧ a ≤ 1048576) (hb : -1048576 ≤ b ∧ b ≤ 1048576) : mpE a b 0 = 0 ∧ mpV a b 0 = cutP a b := by
  obtain ⟨p1, _, p3⟩ := pr_cut2 ha hb
  unfold mpE mpV fxE fxV
  rw [ok_le ha (by omega), ok_le hb (by omega), p1, p3]
  exact ⟨rfl, rfl⟩
theorem ti_cut2 {x y b : Int} (hx : -1048576 ≤ x ∧ x ≤ 1048576) (hy : -1048576 ≤ y ∧ y ≤ 1048576) (hb : -1048576 ≤ b ∧ b ≤ 1048576) : tiE x y b 0 = 0 ∧ tiV x y b 0 x = cutP x b ∧ tiV x y b 0 y = cutP y b := by
  obtain ⟨p1, _, p3⟩ := pr_cut2 hx hb
  obtain ⟨q1, _, q3⟩ := pr_cut2 hy hb
  have hk : tiOk x y b = true := by unfold tiOk; rw [ok_le hx (by omega), ok_le hy (by omega), ok_le hb (by omega)]; rfl
  have hf : tiFit x y b 0 = true := by unfold tiFit; rw [p1, p3, q1, q3]; rfl
  unfold tiE tiV
  rw [hk, hf, p1, q1]
  exact ⟨rfl, rfl, rfl⟩
def spnV (c sp : Int) : Int := sg (ngB sp) (c * ab sp / 1000)
theorem spn_in {c sp : Int} (hc : 0 ≤ c ∧ c ≤ 65536) (hs : -1000 ≤ sp ∧ sp ≤ 1000) : (0 ≤ c * ab sp / 1000 ∧ c * ab sp / 1000 ≤ 65536) ∧ (-65536 ≤ spnV c sp ∧ spnV c sp ≤ 65536) := by
  have h := mul_in hc ⟨ab_nn sp, ab_le.2 hs⟩
  have h1 : 0 ≤ c * ab sp / 1000 ∧ c * ab sp / 1000 ≤ 65536 := ⟨Int.ediv_nonneg h.1 (by omega), by omega⟩
  refine ⟨h1, ?_⟩
  rw [← ab_le]
  unfold spnV
  rw [ab_sg _ h1.1]; exact h1.2
theorem sl_spin {c sp : Int} (hc : 0 ≤ c ∧ c ≤ 65536) (hs : -1000 ≤ sp ∧ sp ≤ 1000) : slE c sp 1000 0 = 0 ∧ slV c sp 1000 0 = spnV c sp := by
  have h := mul_in hc ⟨ab_nn sp, ab_le.2 hs⟩
  have hi := (spn_in hc hs).1
  have hg : scG c sp 1000 = ngB sp := by unfold scG; rw [ng_pos hc.1, ng_pos (x := 1000) (by omega)]; cases ngB sp <;> rfl
  have hP : slP c sp 1000 0 = c * ab sp / 1000 := by
    unfold slP
    rw [ab_pos hc.1, show ab 1000 = 1000 from rfl, rndP_small h.1 (by omega) (by omega), rnd_cut]
  have hok : slOk c sp 1000 = true := by
    unfold slOk
    rw [ok_iff.2 (by omega), rate_iff.2 (by omega), rate_iff.2 (by omega)]; rfl
  have hf : fxB (c * ab sp / 1000) = true := decide_eq_true (by omega)
  unfold slE slV fxE fxV
  rw [hok, hP, hg, hf]
  exact ⟨rfl, rfl⟩
structure Dir (vx vy : Int) : Prop where
  ux : -65536 ≤ uniV vx vy vx ∧ uniV vx vy vx ≤ 65536
  uy : -65536 ≤ uniV vx vy vy ∧ uniV vx vy vy ≤ 65536
  e : uniE vx vy = 0
theorem dir_of {dx dy : Int} (hx : okB dx = true) (hy : okB dy = true) (hz : sq2 dx dy ≠ 0) : Dir dx dy := by
  obtain ⟨s1, s2⟩ := shB_of hx hy hz
  have a := shr_in s1
  have b := shr_in s2
  rw [vw_hl] at a b
  obtain ⟨a0, a1, _, _⟩ := a
  obtain ⟨b0, b1, _, _⟩ := b
  have ex : uniV dx dy dx = sg (ngB dx) (shr (ab dx) (sq2 dx dy)) := by unfold uniV uniB; rw [hx, hy, beq_eq_false_iff_ne.2 hz]; rfl
  have ey : uniV dx dy dy = sg (ngB dy) (shr (ab dy) (sq2 dx dy)) := by unfold uniV uniB; rw [hx, hy, beq_eq_false_iff_ne.2 hz]; rfl
  refine ⟨?_, ?_, ?_⟩
  · rw [← ab_le, ex, ab_sg _ a0]; exact a1
  · rw [← ab_le, ey, ab_sg _ b0]; exact b1
  · unfold uniE uniB; rw [hx, hy, beq_eq_false_iff_ne.2 hz]; rfl
theorem len_down {vx vy : Int} (hx : -65536000 ≤ vx ∧ vx ≤ 65536000) (hy : -65536000 ≤ vy ∧ vy ≤ 65536000) : lenE vx vy 1 = 0 ∧ lenV vx vy 1 = rt (sq2 vx vy) ∧ (0 ≤ lenV vx vy 1 ∧ lenV vx vy 1 ≤ 131072000) ∧ (sq2 vx vy = 0 → lenV vx vy 1 = 0) := by
  have m1 := mul_in ⟨ab_nn vx, ab_le.2 hx⟩ ⟨ab_nn vx, ab_le.2 hx⟩
  have m2 := mul_in ⟨ab_nn vy, ab_le.2 hy⟩ ⟨ab_nn vy, ab_le.2 hy⟩
  have hs : 0 ≤ sq2 vx vy ∧ sq2 vx vy ≤ 8589934592000000 := by unfold sq2; omega
  obtain ⟨r0, r1, r2, r3⟩ := rt_spec hs.1 (by omega)
  have hr : rt (sq2 vx vy) ≤ 131072000 := by
    rcases Int.lt_or_le 131072000 (rt (sq2 vx vy)) with c | c
    · have : 131072000 * 131072000 ≤ rt (sq2 vx vy) * rt (sq2 vx vy) := Int.mul_le_mul (by omega) (by omega) (by omega) (by omega)
      omega
    · exact c
  have hn : rtN (sq2 vx vy) 1 = rt (sq2 vx vy) := by
    unfold rtN
    have : rtUp (sq2 vx vy) 1 = false := rfl
    rw [this]
    exact Int.add_zero _
  have hf : fxB (rt (sq2 vx vy)) = true := decide_eq_true (by omega)
  have hV : lenV vx vy 1 = rt (sq2 vx vy) := by
    unfold lenV lenB fxV
    rw [ok_le hx (by omega), ok_le hy (by omega), hn, hf]; rfl
  refine ⟨?_, hV, ?_, fun hz => ?_⟩
  · unfold lenE lenB fxE
    rw [ok_le hx (by omega), ok_le hy (by omega), hn, hf]; rfl
  · rw [hV]; exact ⟨r0, hr⟩
  · rw [hV]
    rw [hz] at r0 r1
    rw [hz]
    rcases Int.lt_or_le 0 (rt 0) with c | c
    · have : 1 * 1 ≤ rt 0 * rt 0 := Int.mul_le_mul (by omega) (by omega) (by omega) (by omega)
      omega
    · omega
def tkB (sl n : Int) : Int := rnd 3 false (sl * (5000 - n)) 5000
def tkC (bd n sp : Int) : Int := spnV (rnd 3 false (bd * (2000 - n)) 2000) sp
noncomputable def tkVX (sl bd vx vy sp n : Int) : Int := vx - cutP (uniV vx vy vx) (tkB sl n) + cutP (-uniV vx vy vy) (cutP (tkB sl n) (tkC bd n sp))
noncomputable def tkVY (sl bd vx vy sp n : Int) : Int := vy - cutP (uniV vx vy vy) (tkB sl n) + cutP (uniV vx vy vx) (cutP (tkB sl n) (tkC bd n sp))
noncomputable def tkR (sl vx vy n : Int) : Bool := decide (lenV vx vy 1 ≤ tkB sl n)
noncomputable def tkM (sl bd ax ay vx vy sp n : Int) : Bool := movB (ax + tkVX sl bd vx vy sp n) (ay + tkVY sl bd vx vy sp n) (tkVX sl bd vx vy sp n) (tkVY sl bd vx vy sp n) sp
noncomputable def tkStep {β : Type} (sl bd ax ay vx vy sp n : Int) (r : Int → Int → Int → Int → Int → β) (z : β) : β :=
  bif tkR sl vx vy n then r ax ay 0 0 0
  else bif tkM sl bd ax ay vx vy sp n then r (ax + tkVX sl bd vx vy sp n) (ay + tkVY sl bd vx vy sp n) (tkVX sl bd vx vy sp n) (tkVY sl bd vx vy sp n) sp
  else z
theorem scl_in {a n d : Int} (ha : 0 ≤ a ∧ a ≤ 65536) (hn : 0 ≤ n ∧ n ≤ d) (hd : 0 < d) : 0 ≤ rnd 3 false (a * n) d ∧ rnd 3 false (a * n) d ≤ a := by
  have h1 : 0 ≤ a * n := Int.mul_nonneg ha.1 hn.1
  have h2 : a * n ≤ a * d := Int.mul_le_mul_of_nonneg_left hn.2 ha.1
  refine ⟨near_nn h1 hd, ?_⟩
  have := near_mono h1 h2 hd
  rwa [near_mul ha.1 hd] at this
theorem mov_iff {ax ay vx vy sp : Int} : movB ax ay vx vy sp = true ↔ ((-6553600000 ≤ ax ∧ ax ≤ 6553600000) ∧ (-6553600000 ≤ ay ∧ ay ≤ 6553600000)) ∧ ((-65536000 ≤ vx ∧ vx ≤ 65536000) ∧ (-65536000 ≤ vy ∧ vy ≤ 65536000)) ∧ (-1000 ≤ sp ∧ sp ≤ 1000) := by
  unfold movB plcB
  simp only [Bool.and_eq_true, decide_eq_true_eq]
  constructor
  · rintro ⟨⟨a, b⟩, c⟩; exact ⟨a, b, c⟩
  · rintro ⟨a, b, c⟩; exact ⟨⟨a, b⟩, c⟩
structure TkOk (sl bd ax ay vx vy sp n : Int) : Prop where
  sl : 0 ≤ sl ∧ sl ≤ 65536
  bd : 0 ≤ bd ∧ bd ≤ 65536
  px : -6553600000 ≤ ax ∧ ax ≤ 6553600000
  py : -6553600000 ≤ ay ∧ ay ≤ 6553600000
  vx : -65536000 ≤ vx ∧ vx ≤ 65536000
  vy : -65536000 ≤ vy ∧ vy ≤ 65536000
  sp : -1000 ≤ sp ∧ sp ≤ 1000
  n : 0 ≤ n ∧ n ≤ 1000
structure TkIs (sl bd vx vy sp n : Int) : Prop where
  b : 0 ≤ tkB sl n ∧ tkB sl n ≤ 65536
  b1 : 0 ≤ rnd 3 false (bd * (2000 - n)) 2000 ∧ rnd 3 false (bd * (2000 - n)) 2000 ≤ 65536
  c : -65536 ≤ tkC bd n sp ∧ tkC bd n sp ≤ 65536
  a : -65536 ≤ cutP (tkB sl n) (tkC bd n sp) ∧ cutP (tkB sl n) (tkC bd n sp) ≤ 65536
theorem tk_is {sl bd ax ay vx vy sp n : Int} (h : TkOk sl bd ax ay vx vy sp n) : TkIs sl bd vx vy sp n := by
  have h1 := h.n
  have b := scl_in h.sl (n := 5000 - n) (d := 5000) ⟨by omega, by omega⟩ (by omega)
  have c := scl_in h.bd (n := 2000 - n) (d := 2000) ⟨by omega, by omega⟩ (by omega)
  have h2 := h.sl
  have h3 := h.bd
  have hb : 0 ≤ tkB sl n ∧ tkB sl n ≤ 65536 := by unfold tkB; omega
  have hc := (spn_in (c := rnd 3 false (bd * (2000 - n)) 2000) ⟨c.1, by omega⟩ h.sp).2
  exact ⟨hb, ⟨c.1, by omega⟩, hc, cut_in (a := tkB sl n) ⟨by omega, by omega⟩ hc⟩
theorem mi_small2 {x y u v B : Int} (hB : B ≤ 35184372088832) (hx : -B ≤ x ∧ x ≤ B) (hy : -B ≤ y ∧ y ≤ B) (hu : -B ≤ u ∧ u ≤ B) (hv : -B ≤ v ∧ v ≤ B) : miE x y u v = 0 ∧ miX x y u v = x - u ∧ miY x y u v = y - v := by
  have h : four x y u v = true := by unfold four; rw [ok_le hx (by omega), ok_le hy (by omega), ok_le hu (by omega), ok_le hv (by omega)]; rfl
  have h1 : fxB (ab (x - u)) = true := decide_eq_true (ab_le.2 ⟨by omega, by omega⟩)
  have h2 : fxB (ab (y - v)) = true := decide_eq_true (ab_le.2 ⟨by omega, by omega⟩)
  unfold miE miX miY miP two2
  rw [h, h1, h2]
  exact ⟨rfl, rfl, rfl⟩
theorem pl_small2 {x y u v B : Int} (hB : B ≤ 35184372088832) (hx : -B ≤ x ∧ x ≤ B) (hy : -B ≤ y ∧ y ≤ B) (hu : -B ≤ u ∧ u ≤ B) (hv : -B ≤ v ∧ v ≤ B) : plE x y u v = 0 ∧ plX x y u v = x + u ∧ plY x y u v = y + v := by
  have h : four x y u v = true := by unfold four; rw [ok_le hx (by omega), ok_le hy (by omega), ok_le hu (by omega), ok_le hv (by omega)]; rfl
  have h1 : fxB (ab (x + u)) = true := decide_eq_true (ab_le.2 ⟨by omega, by omega⟩)
  have h2 : fxB (ab (y + v)) = true := decide_eq_true (ab_le.2 ⟨by omega, by omega⟩)
  unfold plE plX plY plP two2
  rw [h, h1, h2]
  exact ⟨rfl, rfl, rfl⟩
theorem tk4_fin {α : Type} {ax ay sp VX VY : Int} (ha : -6553600000 ≤ ax ∧ ax ≤ 6553600000) (hb : -6553600000 ≤ ay ∧ ay ≤ 6553600000) (hx : -6553600000 ≤ VX ∧ VX ≤ 6553600000) (hy : -6553600000 ≤ VY ∧ VY ≤ 6553600000) (k : AOut → Option α) : tk4 ax ay sp VX VY k = bif movB (ax + VX) (ay + VY) VX VY sp then k (mvO (ax + VX) (ay + VY) VX VY sp) else k (glmis 4) := by
  obtain ⟨e, ex, ey⟩ := pl_small2 (B := 6553600000) (by omega) ha hb hx hy
  unfold tk4
  rw [e, ex, ey]
  cases movB (ax + VX) (ay + VY) VX VY sp <;> rfl
theorem tk3_fin {α : Type} {ax ay vx vy sp bx by' sx sy : Int} (ha : -6553600000 ≤ ax ∧ ax ≤ 6553600000) (hb : -6553600000 ≤ ay ∧ ay ≤ 6553600000) (hvx : -65536000 ≤ vx ∧ vx ≤ 65536000) (hvy : -65536000 ≤ vy ∧ vy ≤ 65536000) (h1 : -65536 ≤ bx ∧ bx ≤ 65536) (h2 : -65536 ≤ by' ∧ by' ≤ 65536) (h3 : -65536 ≤ sx ∧ sx ≤ 65536) (h4 : -65536 ≤ sy ∧ sy ≤ 65536) (k : AOut → Option α) :
    tk3 ax ay vx vy sp bx by' sx sy k = bif movB (ax + (vx - bx + sx)) (ay + (vy - by' + sy)) (vx - bx + sx) (vy - by' + sy) sp then k (mvO (ax + (vx - bx + sx)) (ay + (vy - by' + sy)) (vx - bx + sx) (vy - by' + sy) sp) else k (glmis 4) := by
  obtain ⟨e, ex, ey⟩ := mi_small2 (B := 65536000) (by omega) hvx hvy (u := bx) (v := by') ⟨by omega, by omega⟩ ⟨by omega, by omega⟩
  obtain ⟨f, fx, fy⟩ := pl_small2 (B := 65601536) (x := vx - bx) (y := vy - by') (u := sx) (v := sy) (by omega) ⟨by omega, by omega⟩ ⟨by omega, by omega⟩ ⟨by omega, by omega⟩ ⟨by omega, by omega⟩
  unfold tk3
  rw [e, ex, ey, f, fx, fy]
  exact tk4_fin ha hb ⟨by omega, by omega⟩ ⟨by omega, by omega⟩ k
theorem tk_fin {α : Type} {sl bd ax ay vx vy sp n : Int} (h : TkOk sl bd ax ay vx vy sp n) (k : AOut → Option α) : tk0 ax ay vx vy sp n 0 sl bd k = tkStep sl bd ax ay vx vy sp n (fun a b c d s => k (mvO a b c d s)) (k (glmis 4)) := by
  have g := tk_is h
  have h1 := h.n
  obtain ⟨l1, l2, l3, l4⟩ := len_down h.vx h.vy
  unfold tk0 tkStep
  rw [i64_in (5000 - n) (by omega), i64_in (2000 - n) (by omega), (sl_near h.sl (n := 5000 - n) (d := 5000) ⟨by omega, by omega⟩ ⟨by omega, by omega⟩).1, (sl_near h.sl (n := 5000 - n) (d := 5000) ⟨by omega, by omega⟩ ⟨by omega, by omega⟩).2, (sl_near h.bd (n := 2000 - n) (d := 2000) ⟨by omega, by omega⟩ ⟨by omega, by omega⟩).1, (sl_near h.bd (n := 2000 - n) (d := 2000) ⟨by omega, by omega⟩ ⟨by omega, by omega⟩).2, (sl_spin g.b1 h.sp).1, (sl_spin g.b1 h.sp).2, l1]
  simp only [BEq.rfl, cond_true]
  show (bif tkR sl vx vy n then _ else tk1 ax ay vx vy sp (tkB sl n) (tkC bd n sp) _ _ k) = _
  cases hr : tkR sl vx vy n
  · have hr' : ¬ lenV vx vy 1 ≤ tkB sl n := of_decide_eq_false hr
    have d := dir_of (ok_le h.vx (by omega)) (ok_le h.vy (by omega)) (fun hz => hr' (by rw [l4 hz]; exact g.b.1))
    have dx := d.ux; have dy := d.uy; have gb := g.b; have ga := g.a; have gc := g.c
    have cb := cut_in d.ux (b := tkB sl n) (B := 65536) ⟨by omega, by omega⟩
    have cc := cut_in d.uy (b := tkB sl n) (B := 65536) ⟨by omega, by omega⟩
    have ca := cut_in (a := -uniV vx vy vy) ⟨by omega, by omega⟩ ga
    have cd := cut_in d.ux ga
    obtain ⟨t1, t2, t3⟩ := ti_cut2 (x := uniV vx vy vx) (y := uniV vx vy vy) (b := tkB sl n) ⟨by omega, by omega⟩ ⟨by omega, by omega⟩ ⟨by omega, by omega⟩
    obtain ⟨m1, m2⟩ := mp_cut (a := tkB sl n) (b := tkC bd n sp) ⟨by omega, by omega⟩ ⟨by omega, by omega⟩
    obtain ⟨s1, s2, s3⟩ := ti_cut2 (x := -uniV vx vy vy) (y := uniV vx vy vx) (b := cutP (tkB sl n) (tkC bd n sp)) ⟨by omega, by omega⟩ ⟨by omega, by omega⟩ ⟨by omega, by omega⟩
    have o1 : okB (uniV vx vy vx) = true := ok_le d.ux (by omega)
    have o2 : okB (uniV vx vy vy) = true := ok_le d.uy (by omega)
    unfold tk1 tk2
    rw [i64_in (0 - uniV vx vy vy) (by omega), show 0 - uniV vx vy vy = -uniV vx vy vy by omega, d.e, t1, t2, t3, m1, m2, s1, s2, s3]
    simp only [List.all_cons, List.all_nil, o1, o2, Bool.and_self, BEq.rfl, cond_true, cond_false]
    exact tk3_fin h.px h.py h.vx h.vy cb cc ca cd k
  · rfl
end Go.Proofs.YtgpljldfbhkdlaaGreat

namespace Go.Proofs.YtgpljldfbhkdlaaGreat
open Go.RowKit
def rgtB (cx cy sd w h : Int) (pb po : List Int) (fl ke sw be we : Int) (ax ay vx vy sp : Int) (n : Int) : Bool := iceB cx cy sd w h pb po && graB fl ke sw be we && movB ax ay vx vy sp && grnB n
theorem rgt_ok (cx cy sd w h : Int) (pb po : List Int) (fl ke sw be we : Int) (ax ay vx vy sp : Int) (n : Int) (hR : rgtB cx cy sd w h pb po fl ke sw be we ax ay vx vy sp n = true) : TkOk (slwV cx cy sd w h pb po fl ke sw be we ax ay) (bdvV cx cy sd w h pb po fl ke sw be we ax ay) ax ay vx vy sp n ∧ slwE cx cy sd w h pb po fl ke sw be we ax ay = 0 := by
  unfold rgtB at hR
  rw [Bool.and_eq_true, Bool.and_eq_true, Bool.and_eq_true] at hR
  obtain ⟨⟨⟨hi, hg⟩, hm⟩, hn⟩ := hR
  obtain ⟨⟨p1, p2⟩, ⟨v1, v2⟩, s⟩ := mov_iff.1 hm
  have hp : plcB ax ay = true := (plc_iff ..).2 ⟨p1, p2⟩
  have gi := ice_is _ _ _ _ _ _ _ hi
  have gr := gra_is _ _ _ _ _ hg
  have n1 : 0 ≤ n ∧ n ≤ 1000 := by unfold grnB at hn; rwa [in_dec] at hn
  have hp1 := hgt_in gi.pg cx cy sd w h ax ay
  have ho1 := hgt_in gi.og cx cy sd w h ax ay
  refine ⟨⟨?_, ?_, p1, p2, v1, v2, s, n1⟩, ?_⟩
  · unfold slwV
    rw [hi, hg, hp]
    have := brk_in gr hp1 ho1
    have := gr.fl
    simp only [Bool.and_self, cond_true]
    omega
  · unfold bdvV
    rw [hi, hg, hp]
    exact bnd_in gr.be ho1
  · unfold slwE
    rw [hi, hg, hp]; rfl
noncomputable def gtickS : Fsp := fun _ args k => match args with
  | [.agg [.int .i64 cx, .int .i64 cy, .int .i64 sd, .int .i64 w, .int .i64 h, .ro (.int .i64) pb, .ro (.int .i64) po, .int .i64 fl, .int .i64 ke, .int .i64 sw, .int .i64 be, .int .i64 we], .agg [.int .i64 ax, .int .i64 ay, .int .i64 vx, .int .i64 vy, .int .i64 sp], .int .i64 n] => bif rgtB cx cy sd w h pb po fl ke sw be we ax ay vx vy sp n then tkStep (slwV cx cy sd w h pb po fl ke sw be we ax ay) (bdvV cx cy sd w h pb po fl ke sw be we ax ay) ax ay vx vy sp n (fun a b c d s => k (mvO a b c d s)) (k (glmis 4)) else none
  | _ => none
theorem tkStep_bind {α β : Type} (sl bd ax ay vx vy sp n : Int) (r : Int → Int → Int → Int → Int → Option α) (z : Option α) (f : α → Option β) : (tkStep sl bd ax ay vx vy sp n r z).bind f = tkStep sl bd ax ay vx vy sp n (fun a b c d s => (r a b c d s).bind f) (z.bind f) := by
  unfold tkStep
  cases tkR sl vx vy n <;> cases tkM sl bd ax ay vx vy sp n <;> rfl
theorem gtickS_ok : FspOk Tryz.prog 48 gtickS := tower_Y fsG3_ok spG_ok ⟨Tryz.func48, fun _ _ => by kernel_rfl⟩ (by intro α args k; unfold gtickS; split <;> simp only [cond_bind, tkStep_bind, Option.bind_some, Option.bind_none]) fun args out hSm hEq => by
  unfold gtickS at hEq
  split at hEq
  · rename_i cx cy sd w h pb po fl ke sw be we ax ay vx vy sp n
    cases hc : rgtB cx cy sd w h pb po fl ke sw be we ax ay vx vy sp n
    · rw [hc] at hEq; cases hEq
    · rw [hc] at hEq
      obtain ⟨t, e⟩ := rgt_ok _ _ _ _ _ _ _ _ _ _ _ _ _ _ _ _ _ _ hc
      refine ⟨8, 8, (gtick_text 8 0 AOut cx cy sd w h pb po fl ke sw be we ax ay vx vy sp n some).trans ?_⟩
      rw [e]
      exact (tk_fin t some).trans hEq
  · cases hEq
noncomputable def fsG4 : FuncId → Option Fsp := fun g =>
  if g = 48 then some gtickS else
  fsG3 g
theorem fsG4_ok : FsOk fsG4 :=
  fs_cons gtickS_ok <|
  fsG3_ok
abbrev BrI := Int × Int × Int × Unit
def brD : BrI := (0, 0, 0, ())
def brmB (b : BrI) : Bool := decide (0 ≤ b.1) && decide (b.1 ≤ b.2.1) && decide (b.2.1 ≤ 6000) && (decide (0 ≤ b.2.2.1) && decide (b.2.2.1 ≤ 1000))
def oddR (b : BrI) : Bool := !brmB b
def brsB (l : List BrI) : Bool := decide ((l.length : Int) ≤ 64) && l.all brmB
theorem any_oddR (l : List BrI) : l.any oddR = !(l.all brmB) := by
  induction l with
  | nil => rfl
  | cons b l ih =>
    simp only [List.any_cons, List.all_cons, ih]
    unfold oddR
    cases brmB b <;> rfl
def cbrT {α : Type} (l : List BrI) (N : Nat) (k : AOut → Option α) : Option α :=
  bif decide ((l.length : Int) > 64) then k (i1 2)
  else
    afterL
      (iterL N
        (fun (x : Int × PUnit) =>
          bif decide (x.1 < (l.length : Int)) then
            if 0 ≤ x.1 ∧ x.1 < (l.length : Int) then
              bif decide (0 ≤ (l.getD x.1.toNat brD).1) then
                bif !decide ((l.getD x.1.toNat brD).1 ≤ (l.getD x.1.toNat brD).2.1) then finL (bif decide (x.1 ≥ 0) then k (i1 2) else k (i1 0))
                else
                  bif decide ((l.getD x.1.toNat brD).2.1 > 6000) then finL (bif decide (x.1 ≥ 0) then k (i1 2) else k (i1 0))
                  else
                    bif decide (0 ≤ (l.getD x.1.toNat brD).2.2.1) then
                      bif !decide ((l.getD x.1.toNat brD).2.2.1 ≤ 1000) then finL (bif decide (x.1 ≥ 0) then k (i1 2) else k (i1 0))
                      else some (LRes.cont (IntKind.i64.wrap (x.1 + 1), PUnit.unit))
                    else finL (bif decide (x.1 ≥ 0) then k (i1 2) else k (i1 0))
              else finL (bif decide (x.1 ≥ 0) then k (i1 2) else k (i1 0))
            else none
          else some (LRes.brk 0 (x.1, PUnit.unit)))
        (0, PUnit.unit))
      fun (id : Nat) (_ : Int × PUnit) => if id = 0 then k (i1 0) else none
theorem gcbr_text (N n0 : Nat) (α : Type) (l : List BrI) (k : AOut → Option α) : evFn real tab ((twY fsG4 spG).env real tab N (n0 + 8)) N Tryz.f25 α [.ro (.recd (.cons (.int .i64) (.cons (.int .i64) (.cons (.int .i64) .nil)))) l] k = cbrT l N k := by kernel_rfl
theorem gcbr_nil (N n0 : Nat) (α : Type) (k : AOut → Option α) : evFn real tab ((twY fsG4 spG).env real tab (N + 1) (n0 + 8)) (N + 1) Tryz.f25 α [.nils] k = k (i1 0) := by kernel_rfl
theorem cbrT_fin {α : Type} (l : List BrI) (hl : l.length ≤ maxLen) (k : AOut → Option α) : cbrT l (l.length + 1) k = k (i1 (er2 (brsB l))) := by
  unfold cbrT brsB
  rw [gt_le]
  cases decide ((l.length : Int) ≤ 64)
  · rfl
  simp only [Bool.not_true, cond_false, Bool.true_and]
  refine (any_loop (fun i : Nat => ((i : Int), PUnit.unit)) l.length (fun i => oddR (l.getD i brD)) (b := 0) (y := ((l.length : Int), PUnit.unit)) (k (i1 2)) (fun i hi => ?_) ?_).trans ?_
  · simp only [lt_len hi, cond_true]
    rw [if_pos (in_len hi), wrap_next hi hl, Int.toNat_natCast]
    have e : decide ((i : Int) ≥ 0) = true := decide_eq_true (by omega)
    rw [e, gt_le]
    unfold oddR brmB
    cases decide (0 ≤ (l.getD i brD).1)
    · rfl
    cases decide ((l.getD i brD).1 ≤ (l.getD i brD).2.1)
    · rfl
    cases decide ((l.getD i brD).2.1 ≤ 6000)
    · rfl
    cases decide (0 ≤ (l.getD i brD).2.2.1)
    · rfl
    cases decide ((l.getD i brD).2.2.1 ≤ 1000) <;> rfl
  · simp only [not_lt_len, cond_false]
  · rw [any_rangeX l brD oddR, any_oddR]
    cases l.all brmB <;> rfl
noncomputable def gcbrS : Fsp := fun _ args k => match args with
  | [.ro (.recd (.cons (.int .i64) (.cons (.int .i64) (.cons (.int .i64) .nil)))) l] => k (i1 (er2 (brsB l)))
  | [.nils] => k (i1 0)
  | _ => none
theorem gcbrS_ok : FspOk Tryz.prog 25 gcbrS := tower_Y fsG4_ok spG_ok ⟨Tryz.func25, fun _ _ => by kernel_rfl⟩ (by intro α args k; unfold gcbrS; split <;> rfl) fun args out hSm hEq => by
  unfold gcbrS at hEq
  split at hEq
  · rename_i l
    exact ⟨l.length + 1, 8, (gcbr_text (l.length + 1) 0 AOut l some).trans ((cbrT_fin l (hSm _ (by simp)).len some).trans hEq)⟩
  · exact ⟨1, 8, (gcbr_nil 0 0 AOut some).trans hEq⟩
  · cases hEq
def strF (t n : Int) (b : BrI) : Int := bif decide (b.1 ≤ t) && decide (t < b.2.1) then (if n < b.2.2.1 then b.2.2.1 else n) else n
def strN (l : List BrI) (t : Int) : Int := l.foldl (strF t) 0
theorem str_next (l : List BrI) (t : Int) {i : Nat} (hi : i < l.length) : strN (l.take (i + 1)) t = strF t (strN (l.take i) t) (l.getD i brD) := by
  unfold strN
  rw [List.take_add_one, List.getElem?_eq_getElem hi, List.foldl_append, List.getD_eq_getElem?_getD, List.getElem?_eq_getElem hi]
  rfl
theorem brm_of {l : List BrI} (h : l.all brmB = true) {i : Nat} (hi : i < l.length) : brmB (l.getD i brD) = true := by
  rw [List.getD_eq_getElem?_getD, List.getElem?_eq_getElem hi]
  exact List.all_eq_true.1 h _ (List.getElem_mem hi)
theorem brm_iff {b : BrI} : brmB b = true ↔ 0 ≤ b.1 ∧ b.1 ≤ b.2.1 ∧ b.2.1 ≤ 6000 ∧ 0 ≤ b.2.2.1 ∧ b.2.2.1 ≤ 1000 := by
  unfold brmB
  simp only [Bool.and_eq_true, decide_eq_true_eq]
  constructor
  · rintro ⟨⟨⟨a, b⟩, c⟩, d, e⟩; exact ⟨a, b, c, d, e⟩
  · rintro ⟨a, b, c, d, e⟩; exact ⟨⟨⟨a, b⟩, c⟩, d, e⟩
theorem str_in {l : List BrI} (h : l.all brmB = true) (t : Int) : 0 ≤ strN l t ∧ strN l t ≤ 1000 := by
  have H : ∀ (l : List BrI), l.all brmB = true → ∀ n, 0 ≤ n ∧ n ≤ 1000 → 0 ≤ l.foldl (strF t) n ∧ l.foldl (strF t) n ≤ 1000 := by
    intro l
    induction l with
    | nil => intro _ n hn; exact hn
    | cons b l ih =>
      intro hb n hn
      rw [List.all_cons, Bool.and_eq_true] at hb
      obtain ⟨b1, b2⟩ := hb
      have b3 := brm_iff.1 b1
      refine ih b2 (strF t n b) ?_
      unfold strF
      cases decide (b.1 ≤ t) && decide (t < b.2.1)
      · exact hn
      · simp only [cond_true]
        split <;> omega
  exact H l h 0 (by omega)
def strT {α : Type} (l : List BrI) (t : Int) (N : Nat) (k : AOut → Option α) : Option α :=
  afterL
    (iterL N
      (fun (x : Int × Int × PUnit) =>
        bif decide (x.2.1 < (l.length : Int)) then
          if 0 ≤ x.2.1 ∧ x.2.1 < (l.length : Int) then
            bif decide ((l.getD x.2.1.toNat brD).1 ≤ t) then
              bif decide (t ≤ IntKind.i64.wrap ((l.getD x.2.1.toNat brD).2.1 - 1)) then
                some (LRes.cont (if x.1 < (l.getD x.2.1.toNat brD).2.2.1 then (l.getD x.2.1.toNat brD).2.2.1 else x.1, IntKind.i64.wrap (x.2.1 + 1), PUnit.unit))
              else some (LRes.cont (x.1, IntKind.i64.wrap (x.2.1 + 1), PUnit.unit))
            else some (LRes.cont (x.1, IntKind.i64.wrap (x.2.1 + 1), PUnit.unit))
          else none
        else some (LRes.brk 0 (x.1, x.2.1, PUnit.unit)))
      (0, 0, PUnit.unit))
    fun (id : Nat) (y : Int × Int × PUnit) => if id = 0 then k (i1 y.1) else none
theorem gstr_text (N n0 : Nat) (α : Type) (l : List BrI) (t : Int) (k : AOut → Option α) : evFn real tab ((twY fsG4 spG).env real tab N (n0 + 8)) N Tryz.f54 α [.ro (.recd (.cons (.int .i64) (.cons (.int .i64) (.cons (.int .i64) .nil)))) l, .int .i64 t] k = strT l t N k := by kernel_rfl
theorem gstr_nil (N n0 : Nat) (α : Type) (t : Int) (k : AOut → Option α) : evFn real tab ((twY fsG4 spG).env real tab (N + 1) (n0 + 8)) (N + 1) Tryz.f54 α [.nils, .int .i64 t] k = k (i1 0) := by kernel_rfl
theorem strT_fin {α : Type} (l : List BrI) (t : Int) (hl : l.length ≤ maxLen) (hb : l.all brmB = true) (k : AOut → Option α) : strT l t (l.length + 1) k = k (i1 (strN l t)) := by
  unfold strT
  refine (count_loop (fun i : Nat => (strN (l.take i) t, (i : Int), PUnit.unit)) l.length (b := 0) (y := (strN (l.take l.length) t, (l.length : Int), PUnit.unit)) (fun i hi => ?_) ?_ (Nat.lt_succ_self _)).trans ?_
  · simp only [lt_len hi, cond_true]
    have b3 := brm_iff.1 (brm_of hb hi)
    rw [if_pos (in_len hi), wrap_next hi hl, Int.toNat_natCast, str_next l t hi, i64_in ((l.getD i brD).2.1 - 1) (by omega)]
    have e : decide (t ≤ (l.getD i brD).2.1 - 1) = decide (t < (l.getD i brD).2.1) := by rw [decide_eq_decide]; omega
    rw [e]
    unfold strF
    cases decide ((l.getD i brD).1 ≤ t)
    · rfl
    cases decide (t < (l.getD i brD).2.1) <;> rfl
  · simp only [not_lt_len, cond_false]
  · rw [List.take_length]; rfl
noncomputable def gstrS : Fsp := fun _ args k => match args with
  | [.ro (.recd (.cons (.int .i64) (.cons (.int .i64) (.cons (.int .i64) .nil)))) l, .int .i64 t] => bif l.all brmB then k (i1 (strN l t)) else none
  | [.nils, .int .i64 t] => k (i1 0)
  | _ => none
theorem gstrS_ok : FspOk Tryz.prog 54 gstrS := tower_Y fsG4_ok spG_ok ⟨Tryz.func54, fun _ _ => by kernel_rfl⟩ (by intro α args k; unfold gstrS; split <;> simp only [cond_bind, Option.bind_some, Option.bind_none]) fun args out hSm hEq => by
  unfold gstrS at hEq
  split at hEq
  · rename_i l t
    have hEq : (bif List.all (α := BrI) l brmB then some (i1 (strN l t)) else none) = some out := hEq
    cases hb : List.all (α := BrI) l brmB
    · rw [hb] at hEq; cases hEq
    · rw [hb] at hEq
      exact ⟨l.length + 1, 8, (gstr_text (l.length + 1) 0 AOut l t some).trans ((strT_fin l t (hSm _ (by simp)).len hb some).trans hEq)⟩
  · rename_i t
    exact ⟨1, 8, (gstr_nil 0 0 AOut t some).trans hEq⟩
  · cases hEq
noncomputable def fsG5 : FuncId → Option Fsp := fun g =>
  if g = 25 then some gcbrS else
  if g = 54 then some gstrS else
  fsG4 g
theorem fsG5_ok : FsOk fsG5 :=
  fs_cons gcbrS_ok <|
  fs_cons gstrS_ok <|
  fsG4_ok
end Go.Proofs.YtgpljldfbhkdlaaGreat

namespace Go.Proofs.YtgpljldfbhkdlaaGreat
open Go.RowKit
def tckB (t : Int) : Bool := decide (0 ≤ t) && decide (t ≤ 6000)
noncomputable def tsA (c : Bool) (sl bd ax ay vx vy sp n : Int) : Int := selI c (tkStep sl bd ax ay vx vy sp n (fun a _ _ _ _ => a) 0)
noncomputable def tsB (c : Bool) (sl bd ax ay vx vy sp n : Int) : Int := selI c (tkStep sl bd ax ay vx vy sp n (fun _ a _ _ _ => a) 0)
noncomputable def tsC (c : Bool) (sl bd ax ay vx vy sp n : Int) : Int := selI c (tkStep sl bd ax ay vx vy sp n (fun _ _ a _ _ => a) 0)
noncomputable def tsD (c : Bool) (sl bd ax ay vx vy sp n : Int) : Int := selI c (tkStep sl bd ax ay vx vy sp n (fun _ _ _ a _ => a) 0)
noncomputable def tsE (c : Bool) (sl bd ax ay vx vy sp n : Int) : Int := selI c (tkStep sl bd ax ay vx vy sp n (fun _ _ _ _ a => a) 0)
noncomputable def tsZ (c : Bool) (sl bd ax ay vx vy sp n : Int) : Int := bif c then tkStep sl bd ax ay vx vy sp n (fun _ _ _ _ _ => 0) 4 else 2
noncomputable def tkO (c : Bool) (sl bd ax ay vx vy sp n : Int) : AOut := .ret (.tup [.agg [.int .i64 (tsA c sl bd ax ay vx vy sp n), .int .i64 (tsB c sl bd ax ay vx vy sp n), .int .i64 (tsC c sl bd ax ay vx vy sp n), .int .i64 (tsD c sl bd ax ay vx vy sp n), .int .i64 (tsE c sl bd ax ay vx vy sp n)], .int .i64 (tsZ c sl bd ax ay vx vy sp n)])
set_option maxRecDepth 100000 in
theorem gStr_text (N n0 : Nat) (α : Type) (l : List BrI) (t : Int) (k : AOut → Option α) : evFn real tab ((twY fsG5 spG).env real tab N (n0 + 8)) N Tryz.f20 α [.ro (.recd (.cons (.int .i64) (.cons (.int .i64) (.cons (.int .i64) .nil)))) l, .int .i64 t] k =
 bif er2 (brsB l) != 0 then k (AOut.ret (AVal.tup [AVal.int IntKind.i64 0, AVal.int IntKind.i64 2])) else bif decide (0 ≤ t) then bif !decide (t ≤ 6000) then k (AOut.ret (AVal.tup
 [AVal.int IntKind.i64 0, AVal.int IntKind.i64 2])) else bif l.all brmB then k (AOut.ret (AVal.tup [AVal.int IntKind.i64 (strN l t), AVal.int IntKind.i64 0])) else none else k
 (AOut.ret (AVal.tup [AVal.int IntKind.i64 0, AVal.int IntKind.i64 2])) := by kernel_rfl
set_option maxRecDepth 100000 in
theorem grgt_text (N n0 : Nat) (α : Type) (cx cy sd w h : Int) (pb po : List Int) (fl ke sw be we : Int) (ax ay vx vy sp : Int) (l : List BrI) (k : AOut → Option α) : evFn real tab ((twY fsG5 spG).env real tab N (n0 + 8)) N Tryz.f37 α [.agg [.int .i64 cx, .int .i64 cy, .int .i64 sd, .int .i64 w, .int .i64 h, .ro (.int .i64) pb, .ro (.int .i64) po, .int .i64 fl, .int .i64 ke, .int .i64 sw, .int .i64 be, .int .i64 we], .agg [.int .i64 ax, .int .i64 ay, .int .i64 vx, .int .i64 vy, .int .i64 sp], .ro (.recd (.cons (.int .i64) (.cons (.int .i64) (.cons (.int .i64) .nil)))) l] k =
 bif er2 (iceB cx cy sd w h pb po) == 0 then bif er2 (graB fl ke sw be we) == 0 then bif er2 (movB ax ay vx vy sp) == 0 then k (AOut.ret (AVal.bool (er2 (brsB l) == 0))) else k
 (AOut.ret (AVal.bool false)) else k (AOut.ret (AVal.bool false)) else k (AOut.ret (AVal.bool false)) := by kernel_rfl
set_option maxRecDepth 100000 in
theorem grg0_text (N n0 : Nat) (α : Type) (cx cy sd w h : Int) (pb po : List Int) (fl ke sw be we : Int) (ax ay vx vy sp : Int) (k : AOut → Option α) : evFn real tab ((twY fsG5 spG).env real tab N (n0 + 8)) N Tryz.f37 α [.agg [.int .i64 cx, .int .i64 cy, .int .i64 sd, .int .i64 w, .int .i64 h, .ro (.int .i64) pb, .ro (.int .i64) po, .int .i64 fl, .int .i64 ke, .int .i64 sw, .int .i64 be, .int .i64 we], .agg [.int .i64 ax, .int .i64 ay, .int .i64 vx, .int .i64 vy, .int .i64 sp], .nils] k =
 bif er2 (iceB cx cy sd w h pb po) == 0 then bif er2 (graB fl ke sw be we) == 0 then bif er2 (movB ax ay vx vy sp) == 0 then k (AOut.ret (AVal.bool (0 == 0))) else k (AOut.ret
 (AVal.bool false)) else k (AOut.ret (AVal.bool false)) else k (AOut.ret (AVal.bool false)) := by kernel_rfl
set_option maxRecDepth 100000 in
theorem gTick_text (N n0 : Nat) (α : Type) (cx cy sd w h : Int) (pb po : List Int) (fl ke sw be we : Int) (ax ay vx vy sp : Int) (n : Int) (k : AOut → Option α) : evFn real tab ((twY fsG5 spG).env real tab N (n0 + 8)) N Tryz.f18 α [.agg [.int .i64 cx, .int .i64 cy, .int .i64 sd, .int .i64 w, .int .i64 h, .ro (.int .i64) pb, .ro (.int .i64) po], .agg [.int .i64 fl, .int .i64 ke, .int .i64 sw, .int .i64 be, .int .i64 we], .agg [.int .i64 ax, .int .i64 ay, .int .i64 vx, .int .i64 vy, .int .i64 sp], .int .i64 n] k =
 bif er2 (iceB cx cy sd w h pb po) == 0 then bif er2 (graB fl ke sw be we) == 0 then bif er2 (movB ax ay vx vy sp) == 0 then bif decide (0 ≤ n) then bif !decide (n ≤ 1000) then k
 (AOut.ret (AVal.tup [AVal.agg [AVal.int IntKind.i64 0, AVal.int IntKind.i64 0, AVal.int IntKind.i64 0, AVal.int IntKind.i64 0, AVal.int IntKind.i64 0], AVal.int IntKind.i64 2]))
 else bif rgtB cx cy sd w h pb po fl ke sw be we ax ay vx vy sp n then bif tkR (slwV cx cy sd w h pb po fl ke sw be we ax ay) vx vy n then k (AOut.ret (AVal.tup [AVal.agg [AVal.int
 IntKind.i64 ax, AVal.int IntKind.i64 ay, AVal.int IntKind.i64 0, AVal.int IntKind.i64 0, AVal.int IntKind.i64 0], AVal.int IntKind.i64 0])) else bif tkM (slwV cx cy sd w h pb po fl
 ke sw be we ax ay) (bdvV cx cy sd w h pb po fl ke sw be we ax ay) ax ay vx vy sp n then k (AOut.ret (AVal.tup [AVal.agg [AVal.int IntKind.i64 (ax + tkVX (slwV cx cy sd w h pb po fl
 ke sw be we ax ay) (bdvV cx cy sd w h pb po fl ke sw be we ax ay) vx vy sp n), AVal.int IntKind.i64 (ay + tkVY (slwV cx cy sd w h pb po fl ke sw be we ax ay) (bdvV cx cy sd w h pb
 po fl ke sw be we ax ay) vx vy sp n), AVal.int IntKind.i64 (tkVX (slwV cx cy sd w h pb po fl ke sw be we ax ay) (bdvV cx cy sd w h pb po fl ke sw be we ax ay) vx vy sp n), AVal.int
 IntKind.i64 (tkVY (slwV cx cy sd w h pb po fl ke sw be we ax ay) (bdvV cx cy sd w h pb po fl ke sw be we ax ay) vx vy sp n), AVal.int IntKind.i64 sp], AVal.int IntKind.i64 0])) else
 k (AOut.ret (AVal.tup [AVal.agg [AVal.int IntKind.i64 0, AVal.int IntKind.i64 0, AVal.int IntKind.i64 0, AVal.int IntKind.i64 0, AVal.int IntKind.i64 0], AVal.int IntKind.i64 4]))
 else none else k (AOut.ret (AVal.tup [AVal.agg [AVal.int IntKind.i64 0, AVal.int IntKind.i64 0, AVal.int IntKind.i64 0, AVal.int IntKind.i64 0, AVal.int IntKind.i64 0], AVal.int
 IntKind.i64 2])) else k (AOut.ret (AVal.tup [AVal.agg [AVal.int IntKind.i64 0, AVal.int IntKind.i64 0, AVal.int IntKind.i64 0, AVal.int IntKind.i64 0, AVal.int IntKind.i64 0],
 AVal.int IntKind.i64 2])) else k (AOut.ret (AVal.tup [AVal.agg [AVal.int IntKind.i64 0, AVal.int IntKind.i64 0, AVal.int IntKind.i64 0, AVal.int IntKind.i64 0, AVal.int IntKind.i64
 0], AVal.int IntKind.i64 2])) else k (AOut.ret (AVal.tup [AVal.agg [AVal.int IntKind.i64 0, AVal.int IntKind.i64 0, AVal.int IntKind.i64 0, AVal.int IntKind.i64 0, AVal.int
 IntKind.i64 0], AVal.int IntKind.i64 2])) := by kernel_rfl
theorem gStr_fin (l : List BrI) (t : Int) (hs : ∀ qSm ∈ ([.ro (.recd (.cons (.int .i64) (.cons (.int .i64) (.cons (.int .i64) .nil)))) l, .int .i64 t] : List AVal), Sm qSm) : ∃ N n, ∀ α (k : AOut → Option α), evFn real tab ((twY fsG5 spG).env real tab N n) N Tryz.f20 α [.ro (.recd (.cons (.int .i64) (.cons (.int .i64) (.cons (.int .i64) .nil)))) l, .int .i64 t] k = k (i2 (selI (brsB l && tckB t) (strN l t)) (er2 (brsB l && tckB t))) := by
  refine ⟨8, 8, fun α k => (gStr_text 8 0 α l t k).trans ?_⟩
  have e : (er2 (brsB l) != 0) = !(brsB l) := by cases brsB l <;> rfl
  rw [e]
  unfold tckB
  cases hb : brsB l
  · rfl
  cases h1 : decide (0 ≤ t)
  · rfl
  cases h2 : decide (t ≤ 6000)
  · rfl
  unfold brsB at hb
  rw [Bool.and_eq_true] at hb
  rw [hb.2]; rfl
noncomputable def gStrS : Fsp := fun _ args k => match args with
  | [.ro (.recd (.cons (.int .i64) (.cons (.int .i64) (.cons (.int .i64) .nil)))) l, .int .i64 t] => k (i2 (selI (brsB l && tckB t) (strN l t)) (er2 (brsB l && tckB t)))
  | _ => none
theorem gStrS_ok : FspOk Tryz.prog 20 gStrS := tower_Y fsG5_ok spG_ok ⟨Tryz.func20, fun _ _ => by kernel_rfl⟩ (by intro α args k; unfold gStrS; split <;> rfl) fun args out hSm hEq => by
  unfold gStrS at hEq
  split at hEq
  · rename_i l t
    obtain ⟨N, n, e⟩ := gStr_fin l t hSm
    exact ⟨N, n, (e AOut some).trans hEq⟩
  · cases hEq
noncomputable def grgtS : Fsp := fun _ args k => match args with
  | [.agg [.int .i64 cx, .int .i64 cy, .int .i64 sd, .int .i64 w, .int .i64 h, .ro (.int .i64) pb, .ro (.int .i64) po, .int .i64 fl, .int .i64 ke, .int .i64 sw, .int .i64 be, .int .i64 we], .agg [.int .i64 ax, .int .i64 ay, .int .i64 vx, .int .i64 vy, .int .i64 sp], .ro (.recd (.cons (.int .i64) (.cons (.int .i64) (.cons (.int .i64) .nil)))) l] => k (b1 (iceB cx cy sd w h pb po && graB fl ke sw be we && movB ax ay vx vy sp && brsB l))
  | [.agg [.int .i64 cx, .int .i64 cy, .int .i64 sd, .int .i64 w, .int .i64 h, .ro (.int .i64) pb, .ro (.int .i64) po, .int .i64 fl, .int .i64 ke, .int .i64 sw, .int .i64 be, .int .i64 we], .agg [.int .i64 ax, .int .i64 ay, .int .i64 vx, .int .i64 vy, .int .i64 sp], .nils] => k (b1 (iceB cx cy sd w h pb po && graB fl ke sw be we && movB ax ay vx vy sp))
  | _ => none
theorem grgtS_ok : FspOk Tryz.prog 37 grgtS := tower_Y fsG5_ok spG_ok ⟨Tryz.func37, fun _ _ => by kernel_rfl⟩ (by intro α args k; unfold grgtS; split <;> rfl) fun args out hSm hEq => by
  unfold grgtS at hEq
  split at hEq
  · rename_i cx cy sd w h pb po fl ke sw be we ax ay vx vy sp l
    refine ⟨8, 8, (grgt_text 8 0 AOut cx cy sd w h pb po fl ke sw be we ax ay vx vy sp l some).trans (Eq.trans ?_ hEq)⟩
    rw [er2_0, er2_0, er2_0, er2_0]
    cases iceB cx cy sd w h pb po <;> cases graB fl ke sw be we <;> cases movB ax ay vx vy sp <;> rfl
  · rename_i cx cy sd w h pb po fl ke sw be we ax ay vx vy sp
    refine ⟨8, 8, (grg0_text 8 0 AOut cx cy sd w h pb po fl ke sw be we ax ay vx vy sp some).trans (Eq.trans ?_ hEq)⟩
    rw [er2_0, er2_0, er2_0]
    cases iceB cx cy sd w h pb po <;> cases graB fl ke sw be we <;> cases movB ax ay vx vy sp <;> rfl
  · cases hEq
theorem gTick_fin (cx cy sd w h : Int) (pb po : List Int) (fl ke sw be we : Int) (ax ay vx vy sp : Int) (u : Int) (hs : ∀ qSm ∈ ([.agg [.int .i64 cx, .int .i64 cy, .int .i64 sd, .int .i64 w, .int .i64 h, .ro (.int .i64) pb, .ro (.int .i64) po], .agg [.int .i64 fl, .int .i64 ke, .int .i64 sw, .int .i64 be, .int .i64 we], .agg [.int .i64 ax, .int .i64 ay, .int .i64 vx, .int .i64 vy, .int .i64 sp], .int .i64 u] : List AVal), Sm qSm) : ∃ N n, ∀ α (k : AOut → Option α), evFn real tab ((twY fsG5 spG).env real tab N n) N Tryz.f18 α [.agg [.int .i64 cx, .int .i64 cy, .int .i64 sd, .int .i64 w, .int .i64 h, .ro (.int .i64) pb, .ro (.int .i64) po], .agg [.int .i64 fl, .int .i64 ke, .int .i64 sw, .int .i64 be, .int .i64 we], .agg [.int .i64 ax, .int .i64 ay, .int .i64 vx, .int .i64 vy, .int .i64 sp], .int .i64 u] k = k (tkO (rgtB cx cy sd w h pb po fl ke sw be we ax ay vx vy sp u) (slwV cx cy sd w h pb po fl ke sw be we ax ay) (bdvV cx cy sd w h pb po fl ke sw be we ax ay) ax ay vx vy sp u) := by
  refine ⟨8, 8, fun α k => (gTick_text 8 0 α cx cy sd w h pb po fl ke sw be we ax ay vx vy sp u k).trans ?_⟩
  rw [er2_0, er2_0, er2_0]
  unfold tkO tsA tsB tsC tsD tsE tsZ tkStep rgtB grnB
  generalize tkM (slwV cx cy sd w h pb po fl ke sw be we ax ay) (bdvV cx cy sd w h pb po fl ke sw be we ax ay) ax ay vx vy sp u = qm
  generalize tkR (slwV cx cy sd w h pb po fl ke sw be we ax ay) vx vy u = qr
  cases iceB cx cy sd w h pb po
  · rfl
  cases graB fl ke sw be we
  · rfl
  cases movB ax ay vx vy sp
  · rfl
  cases decide (0 ≤ u)
  · rfl
  cases decide (u ≤ 1000)
  · rfl
  cases qr
  · cases qm <;> rfl
  · rfl
noncomputable def gTickS : Fsp := fun _ args k => match args with
  | [.agg [.int .i64 cx, .int .i64 cy, .int .i64 sd, .int .i64 w, .int .i64 h, .ro (.int .i64) pb, .ro (.int .i64) po], .agg [.int .i64 fl, .int .i64 ke, .int .i64 sw, .int .i64 be, .int .i64 we], .agg [.int .i64 ax, .int .i64 ay, .int .i64 vx, .int .i64 vy, .int .i64 sp], .int .i64 u] => k (tkO (rgtB cx cy sd w h pb po fl ke sw be we ax ay vx vy sp u) (slwV cx cy sd w h pb po fl ke sw be we ax ay) (bdvV cx cy sd w h pb po fl ke sw be we ax ay) ax ay vx vy sp u)
  | _ => none
theorem gTickS_ok : FspOk Tryz.prog 18 gTickS := tower_Y fsG5_ok spG_ok ⟨Tryz.func18, fun _ _ => by kernel_rfl⟩ (by intro α args k; unfold gTickS; split <;> rfl) fun args out hSm hEq => by
  unfold gTickS at hEq
  split at hEq
  · rename_i cx cy sd w h pb po fl ke sw be we ax ay vx vy sp u
    obtain ⟨N, n, e⟩ := gTick_fin cx cy sd w h pb po fl ke sw be we ax ay vx vy sp u hSm
    exact ⟨N, n, (e AOut some).trans hEq⟩
  · cases hEq
noncomputable def fsG6 : FuncId → Option Fsp := fun g =>
  if g = 37 then some grgtS else
  if g = 20 then some gStrS else
  if g = 18 then some gTickS else
  fsG5 g
theorem fsG6_ok : FsOk fsG6 :=
  fs_cons grgtS_ok <|
  fs_cons gStrS_ok <|
  fs_cons gTickS_ok <|
  fsG5_ok
end Go.Proofs.YtgpljldfbhkdlaaGreat

namespace Go.Proofs.YtgpljldfbhkdlaaGreat
open Go.RowKit
def lefX (x y : Int) : Int := bif okB x && okB y then IntKind.i64.wrap (0 - y) else 0
def lefY (x y : Int) : Int := bif okB x && okB y then x else 0
theorem rleft_fin (x y : Int) (hs : ∀ qSm ∈ ([.agg [.int .i64 x, .int .i64 y]] : List AVal), Sm qSm) : ∃ N n, ∀ α (k : AOut → Option α), evFn real tab ((twY fnR3 spL).env real tab N n) N Tryz.f117 α [.agg [.int .i64 x, .int .i64 y]] k = k (.ret (.agg [.int .i64 (lefX x y), .int .i64 (lefY x y)])) := by
  refine ⟨8, 8, fun α k => (rleft_text 8 0 α x y k).trans ?_⟩
  unfold lefX lefY
  cases okB x
  · rfl
  cases okB y <;> rfl
noncomputable def rleftS : Fsp := fun _ args k => match args with
  | [.agg [.int .i64 x, .int .i64 y]] => k (.ret (.agg [.int .i64 (lefX x y), .int .i64 (lefY x y)]))
  | _ => none
theorem rleftS_ok : FspOk Tryz.prog 117 rleftS := tower_Y fnR3_ok spL_ok ⟨Tryz.func117, fun _ _ => by kernel_rfl⟩ (by intro α args k; unfold rleftS; split <;> rfl) fun args out hSm hEq => by
  unfold rleftS at hEq
  split at hEq
  · rename_i x y
    obtain ⟨N, n, e⟩ := rleft_fin x y hSm
    exact ⟨N, n, (e AOut some).trans hEq⟩
  · cases hEq
theorem rmov_fin (ax ay vx vy sp : Int) (hs : ∀ qSm ∈ ([.agg [.int .i64 ax, .int .i64 ay, .int .i64 vx, .int .i64 vy, .int .i64 sp]] : List AVal), Sm qSm) : ∃ N n, ∀ α (k : AOut → Option α), evFn real tab ((twY fnR3 spL).env real tab N n) N Tryz.f62 α [.agg [.int .i64 ax, .int .i64 ay, .int .i64 vx, .int .i64 vy, .int .i64 sp]] k = k (b1 (movB ax ay vx vy sp)) := by
  refine ⟨8, 8, fun α k => (rmov_text 8 0 α ax ay vx vy sp k).trans ?_⟩
  unfold movB
  rw [ge_le, ge_le]
  cases plcB ax ay <;> cases decide (-65536000 ≤ vx) <;> cases decide (-65536000 ≤ vy) <;> cases decide (vx ≤ 65536000) <;> cases decide (vy ≤ 65536000) <;> cases decide (-1000 ≤ sp) <;> rfl
noncomputable def rmovS : Fsp := fun _ args k => match args with
  | [.agg [.int .i64 ax, .int .i64 ay, .int .i64 vx, .int .i64 vy, .int .i64 sp]] => k (b1 (movB ax ay vx vy sp))
  | _ => none
theorem rmovS_ok : FspOk Tryz.prog 62 rmovS := tower_Y fnR3_ok spL_ok ⟨Tryz.func62, fun _ _ => by kernel_rfl⟩ (by intro α args k; unfold rmovS; split <;> rfl) fun args out hSm hEq => by
  unfold rmovS at hEq
  split at hEq
  · rename_i ax ay vx vy sp
    obtain ⟨N, n, e⟩ := rmov_fin ax ay vx vy sp hSm
    exact ⟨N, n, (e AOut some).trans hEq⟩
  · cases hEq
noncomputable def fnRa : FuncId → Option Fsp := fun g =>
  if g = 117 then some rleftS else
  if g = 62 then some rmovS else
  if g = 113 then some rlenS else
  if g = 116 then some rtimesS else
  if g = 17 then some rslowS else
  if g = 112 then some rbendS else
  fnR3 g
theorem fnRa_ok : FsOk fnRa :=
  fs_cons rleftS_ok <|
  fs_cons rmovS_ok <|
  fs_cons rlenS_ok <|
  fs_cons rtimesS_ok <|
  fs_cons rslowS_ok <|
  fs_cons rbendS_ok <|
  fnR3_ok
/-! Plain numbers. -/
theorem ml_cut {a b : Int} (ha : -1048576 ≤ a ∧ a ≤ 1048576) (hb : -1048576 ≤ b ∧ b ≤ 1048576) : mulE a b 0 = 0 ∧ mulV a b 0 = cutP a b := by
  obtain ⟨_, p2, p3⟩ := pr_cut2 ha hb
  unfold mulE mulV mulB fxE fxV
  rw [ok_le ha (by omega), ok_le hb (by omega), p2, p3]
  exact ⟨rfl, rfl⟩
theorem sc_spin {c sp : Int} (hc : 0 ≤ c ∧ c ≤ 65536) (hs : -1000 ≤ sp ∧ sp ≤ 1000) : scV c sp 1000 0 = spnV c sp := by
  have hi := (spn_in hc hs).1
  have hg : scG c sp 1000 = ngB sp := by unfold scG; rw [ng_pos hc.1, ng_pos (x := 1000) (by omega)]; cases ngB sp <;> rfl
  have hN : scN c sp 1000 0 = c * ab sp / 1000 := by
    unfold scN
    rw [ab_pos hc.1, show ab 1000 = 1000 from rfl, rnd_cut]
  have hok : scB c sp 1000 0 = true := by
    unfold scB
    rw [ok_iff.2 (by omega), rate_iff.2 (by omega), rate_iff.2 (by omega)]; rfl
  have hf : fxB (c * ab sp / 1000) = true := decide_eq_true (by omega)
  unfold scV fxV
  rw [hok, hN, hg, hf]
  rfl
def rbrT {α : Type} (l : List BrI) (N : Nat) (k : AOut → Option α) : Option α :=
  afterL
    (iterL N
      (fun (x : Int × PUnit) =>
        bif decide (x.1 < (l.length : Int)) then
          if 0 ≤ x.1 ∧ x.1 < (l.length : Int) then
            if 0 ≤ x.1 ∧ x.1 < (l.length : Int) then
              bif decide (0 ≤ (l.getD x.1.toNat brD).1) then
                bif !decide ((l.getD x.1.toNat brD).1 ≤ (l.getD x.1.toNat brD).2.1) then finL (k (b1 false))
                else
                  if 0 ≤ x.1 ∧ x.1 < (l.length : Int) then
                    bif decide ((l.getD x.1.toNat brD).2.1 > 6000) then finL (k (b1 false))
                    else
                      if 0 ≤ x.1 ∧ x.1 < (l.length : Int) then
                        bif decide (0 ≤ (l.getD x.1.toNat brD).2.2.1) then
                          bif !decide ((l.getD x.1.toNat brD).2.2.1 ≤ 1000) then finL (k (b1 false))
                          else some (LRes.cont (IntKind.i64.wrap (x.1 + 1), PUnit.unit))
                        else finL (k (b1 false))
                      else none
                  else none
              else finL (k (b1 false))
            else none
          else none
        else some (LRes.brk 0 (x.1, PUnit.unit)))
      (0, PUnit.unit))
    fun (id : Nat) (_ : Int × PUnit) => if id = 0 then k (b1 (decide ((l.length : Int) ≤ 64))) else none
theorem rbrs_text (N n0 : Nat) (α : Type) (l : List BrI) (k : AOut → Option α) : evFn real tab ((twY fnRa spL).env real tab N (n0 + 8)) N Tryz.f55 α [.ro (.recd (.cons (.int .i64) (.cons (.int .i64) (.cons (.int .i64) .nil)))) l] k = rbrT l N k := by kernel_rfl
theorem rbrs_nil (N n0 : Nat) (α : Type) (k : AOut → Option α) : evFn real tab ((twY fnRa spL).env real tab (N + 1) (n0 + 8)) (N + 1) Tryz.f55 α [.nils] k = k (b1 true) := by kernel_rfl
theorem rbrT_fin {α : Type} (l : List BrI) (hl : l.length ≤ maxLen) (k : AOut → Option α) : rbrT l (l.length + 1) k = k (b1 (brsB l)) := by
  unfold rbrT brsB
  refine (any_loop (fun i : Nat => ((i : Int), PUnit.unit)) l.length (fun i => oddR (l.getD i brD)) (b := 0) (y := ((l.length : Int), PUnit.unit)) (k (b1 false)) (fun i hi => ?_) ?_).trans ?_
  · simp only [lt_len hi, cond_true]
    rw [if_pos (in_len hi), if_pos (in_len hi), if_pos (in_len hi), if_pos (in_len hi), wrap_next hi hl, Int.toNat_natCast, gt_le]
    unfold oddR brmB
    cases decide (0 ≤ (l.getD i brD).1)
    · rfl
    cases decide ((l.getD i brD).1 ≤ (l.getD i brD).2.1)
    · rfl
    cases decide ((l.getD i brD).2.1 ≤ 6000)
    · rfl
    cases decide (0 ≤ (l.getD i brD).2.2.1)
    · rfl
    cases decide ((l.getD i brD).2.2.1 ≤ 1000) <;> rfl
  · simp only [not_lt_len, cond_false]
  · rw [any_rangeX l brD oddR, any_oddR]
    cases l.all brmB <;> cases decide ((l.length : Int) ≤ 64) <;> rfl
noncomputable def rbrsS : Fsp := fun _ args k => match args with
  | [.ro (.recd (.cons (.int .i64) (.cons (.int .i64) (.cons (.int .i64) .nil)))) l] => k (b1 (brsB l))
  | [.nils] => k (b1 true)
  | _ => none
theorem rbrsS_ok : FspOk Tryz.prog 55 rbrsS := tower_Y fnRa_ok spL_ok ⟨Tryz.func55, fun _ _ => by kernel_rfl⟩ (by intro α args k; unfold rbrsS; split <;> rfl) fun args out hSm hEq => by
  unfold rbrsS at hEq
  split at hEq
  · rename_i l
    exact ⟨l.length + 1, 8, (rbrs_text (l.length + 1) 0 AOut l some).trans ((rbrT_fin l (hSm _ (by simp)).len some).trans hEq)⟩
  · exact ⟨1, 8, (rbrs_nil 0 0 AOut some).trans hEq⟩
  · cases hEq
def rsrT {α : Type} (l : List BrI) (t : Int) (N : Nat) (k : AOut → Option α) : Option α :=
  afterL
    (iterL N
      (fun (x : Int × Int × PUnit) =>
        bif decide (x.2.1 < (l.length : Int)) then
          if 0 ≤ x.2.1 ∧ x.2.1 < (l.length : Int) then
            bif decide ((l.getD x.2.1.toNat brD).1 ≤ t) then
              if 0 ≤ x.2.1 ∧ x.2.1 < (l.length : Int) then
                bif decide ((l.getD x.2.1.toNat brD).2.1 > t) then
                  if 0 ≤ x.2.1 ∧ x.2.1 < (l.length : Int) then
                    some (LRes.cont (if x.1 < (l.getD x.2.1.toNat brD).2.2.1 then (l.getD x.2.1.toNat brD).2.2.1 else x.1, IntKind.i64.wrap (x.2.1 + 1), PUnit.unit))
                  else none
                else some (LRes.cont (x.1, IntKind.i64.wrap (x.2.1 + 1), PUnit.unit))
              else none
            else some (LRes.cont (x.1, IntKind.i64.wrap (x.2.1 + 1), PUnit.unit))
          else none
        else some (LRes.brk 0 (x.1, x.2.1, PUnit.unit)))
      (0, 0, PUnit.unit))
    fun (id : Nat) (y : Int × Int × PUnit) => if id = 0 then k (i1 y.1) else none
theorem rstr_text (N n0 : Nat) (α : Type) (l : List BrI) (t : Int) (k : AOut → Option α) : evFn real tab ((twY fnRa spL).env real tab N (n0 + 8)) N Tryz.f57 α [.ro (.recd (.cons (.int .i64) (.cons (.int .i64) (.cons (.int .i64) .nil)))) l, .int .i64 t] k = rsrT l t N k := by kernel_rfl
theorem rstr_nil (N n0 : Nat) (α : Type) (t : Int) (k : AOut → Option α) : evFn real tab ((twY fnRa spL).env real tab (N + 1) (n0 + 8)) (N + 1) Tryz.f57 α [.nils, .int .i64 t] k = k (i1 0) := by kernel_rfl
theorem rsrT_fin {α : Type} (l : List BrI) (t : Int) (hl : l.length ≤ maxLen) (k : AOut → Option α) : rsrT l t (l.length + 1) k = k (i1 (strN l t)) := by
  unfold rsrT
  refine (count_loop (fun i : Nat => (strN (l.take i) t, (i : Int), PUnit.unit)) l.length (b := 0) (y := (strN (l.take l.length) t, (l.length : Int), PUnit.unit)) (fun i hi => ?_) ?_ (Nat.lt_succ_self _)).trans ?_
  · simp only [lt_len hi, cond_true]
    rw [if_pos (in_len hi), if_pos (in_len hi), if_pos (in_len hi), wrap_next hi hl, Int.toNat_natCast, str_next l t hi]
    have e : decide ((l.getD i brD).2.1 > t) = decide (t < (l.getD i brD).2.1) := rfl
    rw [e]
    unfold strF
    cases decide ((l.getD i brD).1 ≤ t)
    · rfl
    cases decide (t < (l.getD i brD).2.1) <;> rfl
  · simp only [not_lt_len, cond_false]
  · rw [List.take_length]; rfl
noncomputable def rstrS : Fsp := fun _ args k => match args with
  | [.ro (.recd (.cons (.int .i64) (.cons (.int .i64) (.cons (.int .i64) .nil)))) l, .int .i64 t] => k (i1 (strN l t))
  | [.nils, .int .i64 t] => k (i1 0)
  | _ => none
theorem rstrS_ok : FspOk Tryz.prog 57 rstrS := tower_Y fnRa_ok spL_ok ⟨Tryz.func57, fun _ _ => by kernel_rfl⟩ (by intro α args k; unfold rstrS; split <;> rfl) fun args out hSm hEq => by
  unfold rstrS at hEq
  split at hEq
  · rename_i l t
    exact ⟨l.length + 1, 8, (rstr_text (l.length + 1) 0 AOut l t some).trans ((rsrT_fin l t (hSm _ (by simp)).len some).trans hEq)⟩
  · rename_i t
    exact ⟨1, 8, (rstr_nil 0 0 AOut t some).trans hEq⟩
  · cases hEq
/-! A tick of the reference. -/
abbrev mvR (ax ay vx vy sp e : Int) : AOut := .ret (.tup [.agg [iN ax, iN ay, iN vx, iN vy, iN sp], iN e])
noncomputable def rnx3 {α : Type} (ax ay sp VX VY : Int) (k : AOut → Option α) : Option α :=
  bif !movB (IntKind.i64.wrap (ax + VX)) (IntKind.i64.wrap (ay + VY)) VX VY sp then k (mvR 0 0 0 0 0 4) else k (mvR (IntKind.i64.wrap (ax + VX)) (IntKind.i64.wrap (ay + VY)) VX VY sp 0)
noncomputable def rnx2 {α : Type} (ax ay vx vy sp ux uy lx ly B A : Int) (k : AOut → Option α) : Option α :=
  rnx3 ax ay sp (IntKind.i64.wrap (IntKind.i64.wrap (vx - twoV (mulE ux B 0) (mulE uy B 0) (mulV ux B 0)) + twoV (mulE lx A 0) (mulE ly A 0) (mulV lx A 0)))
    (IntKind.i64.wrap (IntKind.i64.wrap (vy - twoV (mulE ux B 0) (mulE uy B 0) (mulV uy B 0)) + twoV (mulE lx A 0) (mulE ly A 0) (mulV ly A 0))) k
noncomputable def rnx1 {α : Type} (ax ay vx vy sp sl bd u : Int) (k : AOut → Option α) : Option α :=
  bif decide (lenV vx vy 1 ≤ scV sl (IntKind.i64.wrap (5000 - u)) 5000 3) then k (mvR ax ay 0 0 0 0)
  else rnx2 ax ay vx vy sp (uniV vx vy vx) (uniV vx vy vy) (lefX (uniV vx vy vx) (uniV vx vy vy)) (lefY (uniV vx vy vx) (uniV vx vy vy)) (scV sl (IntKind.i64.wrap (5000 - u)) 5000 3) (mulV (scV sl (IntKind.i64.wrap (5000 - u)) 5000 3) (scV (scV bd (IntKind.i64.wrap (2000 - u)) 2000 3) sp 1000 0) 0) k
set_option maxRecDepth 100000 in
theorem rnxt_text (N n0 : Nat) (α : Type) (cx cy sd w h : Int) (pb po : List Int) (fl ke sw be we : Int) (ax ay vx vy sp : Int) (u : Int) (k : AOut → Option α) : evFn real tab ((twY fnRa spL).env real tab N (n0 + 8)) N Tryz.f59 α [.agg [.int .i64 cx, .int .i64 cy, .int .i64 sd, .int .i64 w, .int .i64 h, .ro (.int .i64) pb, .ro (.int .i64) po], .agg [.int .i64 fl, .int .i64 ke, .int .i64 sw, .int .i64 be, .int .i64 we], .agg [.int .i64 ax, .int .i64 ay, .int .i64 vx, .int .i64 vy, .int .i64 sp], .int .i64 u] k = rnx1 ax ay vx vy sp (slwV cx cy sd w h pb po fl ke sw be we ax ay) (bdvV cx cy sd w h pb po fl ke sw be we ax ay) u k := by kernel_rfl
theorem rnx_fin {α : Type} {sl bd ax ay vx vy sp n : Int} (h : TkOk sl bd ax ay vx vy sp n) (k : AOut → Option α) : rnx1 ax ay vx vy sp sl bd n k = k (tkO true sl bd ax ay vx vy sp n) := by
  have g := tk_is h
  have h1 := h.n
  obtain ⟨l1, l2, l3, l4⟩ := len_down h.vx h.vy
  unfold rnx1
  rw [i64_in (5000 - n) (by omega), i64_in (2000 - n) (by omega), (sc_near h.sl (n := 5000 - n) (d := 5000) ⟨by omega, by omega⟩ ⟨by omega, by omega⟩).1, (sc_near h.bd (n := 2000 - n) (d := 2000) ⟨by omega, by omega⟩ ⟨by omega, by omega⟩).1, sc_spin g.b1 h.sp]
  show (bif tkR sl vx vy n then _ else rnx2 ax ay vx vy sp _ _ _ _ (tkB sl n) (mulV (tkB sl n) (tkC bd n sp) 0) k) = _
  unfold tkO tsA tsB tsC tsD tsE tsZ tkStep
  cases hr : tkR sl vx vy n
  · have hr' : ¬ lenV vx vy 1 ≤ tkB sl n := of_decide_eq_false hr
    have d := dir_of (ok_le h.vx (by omega)) (ok_le h.vy (by omega)) (fun hz => hr' (by rw [l4 hz]; exact g.b.1))
    have dx := d.ux; have dy := d.uy; have gb := g.b; have ga := g.a; have gc := g.c
    have px := h.px; have py := h.py; have hvx := h.vx; have hvy := h.vy
    have cb := cut_in d.ux (b := tkB sl n) (B := 65536) ⟨by omega, by omega⟩
    have cc := cut_in d.uy (b := tkB sl n) (B := 65536) ⟨by omega, by omega⟩
    have ca := cut_in (a := -uniV vx vy vy) ⟨by omega, by omega⟩ ga
    have cd := cut_in d.ux ga
    obtain ⟨t1, t2⟩ := ml_cut (a := uniV vx vy vx) (b := tkB sl n) ⟨by omega, by omega⟩ ⟨by omega, by omega⟩
    obtain ⟨t3, t4⟩ := ml_cut (a := uniV vx vy vy) (b := tkB sl n) ⟨by omega, by omega⟩ ⟨by omega, by omega⟩
    obtain ⟨m1, m2⟩ := ml_cut (a := tkB sl n) (b := tkC bd n sp) ⟨by omega, by omega⟩ ⟨by omega, by omega⟩
    obtain ⟨s1, s2⟩ := ml_cut (a := -uniV vx vy vy) (b := cutP (tkB sl n) (tkC bd n sp)) ⟨by omega, by omega⟩ ⟨by omega, by omega⟩
    obtain ⟨s3, s4⟩ := ml_cut (a := uniV vx vy vx) (b := cutP (tkB sl n) (tkC bd n sp)) ⟨by omega, by omega⟩ ⟨by omega, by omega⟩
    have o1 : okB (uniV vx vy vx) = true := ok_le d.ux (by omega)
    have o2 : okB (uniV vx vy vy) = true := ok_le d.uy (by omega)
    have hlx : lefX (uniV vx vy vx) (uniV vx vy vy) = -uniV vx vy vy := by
      unfold lefX
      rw [o1, o2, i64_in (0 - uniV vx vy vy) (by omega)]
      simp only [Bool.and_self, cond_true]; omega
    have hly : lefY (uniV vx vy vx) (uniV vx vy vy) = uniV vx vy vx := by
      unfold lefY
      rw [o1, o2]; rfl
    have vX : -65667072 ≤ tkVX sl bd vx vy sp n ∧ tkVX sl bd vx vy sp n ≤ 65667072 := by unfold tkVX; omega
    have vY : -65667072 ≤ tkVY sl bd vx vy sp n ∧ tkVY sl bd vx vy sp n ≤ 65667072 := by unfold tkVY; omega
    unfold rnx2
    rw [hlx, hly, m2, t1, t2, t3, t4, s1, s2, s3, s4]
    show rnx3 ax ay sp (IntKind.i64.wrap (IntKind.i64.wrap (vx - cutP (uniV vx vy vx) (tkB sl n)) + cutP (-uniV vx vy vy) (cutP (tkB sl n) (tkC bd n sp)))) (IntKind.i64.wrap (IntKind.i64.wrap (vy - cutP (uniV vx vy vy) (tkB sl n)) + cutP (uniV vx vy vx) (cutP (tkB sl n) (tkC bd n sp)))) k = _
    rw [i64_in (vx - cutP (uniV vx vy vx) (tkB sl n)) (by omega), i64_in (vy - cutP (uniV vx vy vy) (tkB sl n)) (by omega), i64_in (_ + _) (by omega), i64_in (_ + _) (by omega)]
    show rnx3 ax ay sp (tkVX sl bd vx vy sp n) (tkVY sl bd vx vy sp n) k = _
    unfold rnx3 tkM
    rw [i64_in (ax + tkVX sl bd vx vy sp n) (by omega), i64_in (ay + tkVY sl bd vx vy sp n) (by omega)]
    cases movB (ax + tkVX sl bd vx vy sp n) (ay + tkVY sl bd vx vy sp n) (tkVX sl bd vx vy sp n) (tkVY sl bd vx vy sp n) sp <;> rfl
  · rfl
theorem rnxt_fin (cx cy sd w h : Int) (pb po : List Int) (fl ke sw be we : Int) (ax ay vx vy sp : Int) (u : Int) (hs : ∀ qSm ∈ ([.agg [.int .i64 cx, .int .i64 cy, .int .i64 sd, .int .i64 w, .int .i64 h, .ro (.int .i64) pb, .ro (.int .i64) po], .agg [.int .i64 fl, .int .i64 ke, .int .i64 sw, .int .i64 be, .int .i64 we], .agg [.int .i64 ax, .int .i64 ay, .int .i64 vx, .int .i64 vy, .int .i64 sp], .int .i64 u] : List AVal), Sm qSm) (hCo : (rgtB cx cy sd w h pb po fl ke sw be we ax ay vx vy sp u) = true) : ∃ N n, ∀ α (k : AOut → Option α), evFn real tab ((twY fnRa spL).env real tab N n) N Tryz.f59 α [.agg [.int .i64 cx, .int .i64 cy, .int .i64 sd, .int .i64 w, .int .i64 h, .ro (.int .i64) pb, .ro (.int .i64) po], .agg [.int .i64 fl, .int .i64 ke, .int .i64 sw, .int .i64 be, .int .i64 we], .agg [.int .i64 ax, .int .i64 ay, .int .i64 vx, .int .i64 vy, .int .i64 sp], .int .i64 u] k = k (tkO true (slwV cx cy sd w h pb po fl ke sw be we ax ay) (bdvV cx cy sd w h pb po fl ke sw be we ax ay) ax ay vx vy sp u) := by
  exact ⟨8, 8, fun α k => (rnxt_text 8 0 α cx cy sd w h pb po fl ke sw be we ax ay vx vy sp u k).trans (rnx_fin (rgt_ok _ _ _ _ _ _ _ _ _ _ _ _ _ _ _ _ _ _ hCo).1 k)⟩
noncomputable def rnxtS : Fsp := fun _ args k => match args with
  | [.agg [.int .i64 cx, .int .i64 cy, .int .i64 sd, .int .i64 w, .int .i64 h, .ro (.int .i64) pb, .ro (.int .i64) po], .agg [.int .i64 fl, .int .i64 ke, .int .i64 sw, .int .i64 be, .int .i64 we], .agg [.int .i64 ax, .int .i64 ay, .int .i64 vx, .int .i64 vy, .int .i64 sp], .int .i64 u] => bif rgtB cx cy sd w h pb po fl ke sw be we ax ay vx vy sp u then (k (tkO true (slwV cx cy sd w h pb po fl ke sw be we ax ay) (bdvV cx cy sd w h pb po fl ke sw be we ax ay) ax ay vx vy sp u)) else none
  | _ => none
theorem rnxtS_ok : FspOk Tryz.prog 59 rnxtS := tower_Y fnRa_ok spL_ok ⟨Tryz.func59, fun _ _ => by kernel_rfl⟩ (by intro α args k; unfold rnxtS; split <;> simp only [cond_bind, Option.bind_some, Option.bind_none]) fun args out hSm hEq => by
  unfold rnxtS at hEq
  split at hEq
  · rename_i cx cy sd w h pb po fl ke sw be we ax ay vx vy sp u
    cases hc : rgtB cx cy sd w h pb po fl ke sw be we ax ay vx vy sp u
    · rw [hc] at hEq; cases hEq
    · rw [hc] at hEq
      obtain ⟨N, n, e⟩ := rnxt_fin cx cy sd w h pb po fl ke sw be we ax ay vx vy sp u hSm hc
      exact ⟨N, n, (e AOut some).trans hEq⟩
  · cases hEq
noncomputable def fnRb : FuncId → Option Fsp := fun g =>
  if g = 55 then some rbrsS else
  if g = 57 then some rstrS else
  if g = 59 then some rnxtS else
  fnRa g
theorem fnRb_ok : FsOk fnRb :=
  fs_cons rbrsS_ok <|
  fs_cons rstrS_ok <|
  fs_cons rnxtS_ok <|
  fnRa_ok
set_option maxRecDepth 100000 in
theorem rStr_text (N n0 : Nat) (α : Type) (l : List BrI) (t : Int) (k : AOut → Option α) : evFn real tab ((twY fnRb spL).env real tab N (n0 + 8)) N Tryz.f21 α [.ro (.recd (.cons (.int .i64) (.cons (.int .i64) (.cons (.int .i64) .nil)))) l, .int .i64 t] k =
 bif !brsB l then k (AOut.ret (AVal.tup [AVal.int IntKind.i64 0, AVal.int IntKind.i64 2])) else bif decide (0 ≤ t) then bif !decide (t ≤ 6000) then k (AOut.ret (AVal.tup [AVal.int
 IntKind.i64 0, AVal.int IntKind.i64 2])) else k (AOut.ret (AVal.tup [AVal.int IntKind.i64 (strN l t), AVal.int IntKind.i64 0])) else k (AOut.ret (AVal.tup [AVal.int IntKind.i64 0,
 AVal.int IntKind.i64 2])) := by kernel_rfl
set_option maxRecDepth 100000 in
theorem rTick_text (N n0 : Nat) (α : Type) (cx cy sd w h : Int) (pb po : List Int) (fl ke sw be we : Int) (ax ay vx vy sp : Int) (u : Int) (k : AOut → Option α) : evFn real tab ((twY fnRb spL).env real tab N (n0 + 8)) N Tryz.f22 α [.agg [.int .i64 cx, .int .i64 cy, .int .i64 sd, .int .i64 w, .int .i64 h, .ro (.int .i64) pb, .ro (.int .i64) po], .agg [.int .i64 fl, .int .i64 ke, .int .i64 sw, .int .i64 be, .int .i64 we], .agg [.int .i64 ax, .int .i64 ay, .int .i64 vx, .int .i64 vy, .int .i64 sp], .int .i64 u] k =
 bif iceB cx cy sd w h pb po then bif graB fl ke sw be we then bif movB ax ay vx vy sp then bif decide (0 ≤ u) then bif !decide (u ≤ 1000) then k (AOut.ret (AVal.tup [AVal.agg
 [AVal.int IntKind.i64 0, AVal.int IntKind.i64 0, AVal.int IntKind.i64 0, AVal.int IntKind.i64 0, AVal.int IntKind.i64 0], AVal.int IntKind.i64 2])) else bif rgtB cx cy sd w h pb po
 fl ke sw be we ax ay vx vy sp u then k (AOut.ret (AVal.tup [AVal.agg [AVal.int IntKind.i64 (tsA true (slwV cx cy sd w h pb po fl ke sw be we ax ay) (bdvV cx cy sd w h pb po fl ke sw
 be we ax ay) ax ay vx vy sp u), AVal.int IntKind.i64 (tsB true (slwV cx cy sd w h pb po fl ke sw be we ax ay) (bdvV cx cy sd w h pb po fl ke sw be we ax ay) ax ay vx vy sp u),
 AVal.int IntKind.i64 (tsC true (slwV cx cy sd w h pb po fl ke sw be we ax ay) (bdvV cx cy sd w h pb po fl ke sw be we ax ay) ax ay vx vy sp u), AVal.int IntKind.i64 (tsD true (slwV
 cx cy sd w h pb po fl ke sw be we ax ay) (bdvV cx cy sd w h pb po fl ke sw be we ax ay) ax ay vx vy sp u), AVal.int IntKind.i64 (tsE true (slwV cx cy sd w h pb po fl ke sw be we ax
 ay) (bdvV cx cy sd w h pb po fl ke sw be we ax ay) ax ay vx vy sp u)], AVal.int IntKind.i64 (tsZ true (slwV cx cy sd w h pb po fl ke sw be we ax ay) (bdvV cx cy sd w h pb po fl ke
 sw be we ax ay) ax ay vx vy sp u)])) else none else k (AOut.ret (AVal.tup [AVal.agg [AVal.int IntKind.i64 0, AVal.int IntKind.i64 0, AVal.int IntKind.i64 0, AVal.int IntKind.i64 0,
 AVal.int IntKind.i64 0], AVal.int IntKind.i64 2])) else k (AOut.ret (AVal.tup [AVal.agg [AVal.int IntKind.i64 0, AVal.int IntKind.i64 0, AVal.int IntKind.i64 0, AVal.int IntKind.i64
 0, AVal.int IntKind.i64 0], AVal.int IntKind.i64 2])) else k (AOut.ret (AVal.tup [AVal.agg [AVal.int IntKind.i64 0, AVal.int IntKind.i64 0, AVal.int IntKind.i64 0, AVal.int
 IntKind.i64 0, AVal.int IntKind.i64 0], AVal.int IntKind.i64 2])) else k (AOut.ret (AVal.tup [AVal.agg [AVal.int IntKind.i64 0, AVal.int IntKind.i64 0, AVal.int IntKind.i64 0,
 AVal.int IntKind.i64 0, AVal.int IntKind.i64 0], AVal.int IntKind.i64 2])) := by kernel_rfl
theorem rStr_fin (l : List BrI) (t : Int) (hs : ∀ qSm ∈ ([.ro (.recd (.cons (.int .i64) (.cons (.int .i64) (.cons (.int .i64) .nil)))) l, .int .i64 t] : List AVal), Sm qSm) : ∃ N n, ∀ α (k : AOut → Option α), evFn real tab ((twY fnRb spL).env real tab N n) N Tryz.f21 α [.ro (.recd (.cons (.int .i64) (.cons (.int .i64) (.cons (.int .i64) .nil)))) l, .int .i64 t] k = k (i2 (selI (brsB l && tckB t) (strN l t)) (er2 (brsB l && tckB t))) := by
  refine ⟨8, 8, fun α k => (rStr_text 8 0 α l t k).trans ?_⟩
  unfold tckB
  cases brsB l
  · rfl
  cases decide (0 ≤ t)
  · rfl
  cases decide (t ≤ 6000) <;> rfl
noncomputable def rStrS : Fsp := fun _ args k => match args with
  | [.ro (.recd (.cons (.int .i64) (.cons (.int .i64) (.cons (.int .i64) .nil)))) l, .int .i64 t] => k (i2 (selI (brsB l && tckB t) (strN l t)) (er2 (brsB l && tckB t)))
  | _ => none
theorem rStrS_ok : FspOk Tryz.prog 21 rStrS := tower_Y fnRb_ok spL_ok ⟨Tryz.func21, fun _ _ => by kernel_rfl⟩ (by intro α args k; unfold rStrS; split <;> rfl) fun args out hSm hEq => by
  unfold rStrS at hEq
  split at hEq
  · rename_i l t
    obtain ⟨N, n, e⟩ := rStr_fin l t hSm
    exact ⟨N, n, (e AOut some).trans hEq⟩
  · cases hEq
theorem rTick_fin (cx cy sd w h : Int) (pb po : List Int) (fl ke sw be we : Int) (ax ay vx vy sp : Int) (u : Int) (hs : ∀ qSm ∈ ([.agg [.int .i64 cx, .int .i64 cy, .int .i64 sd, .int .i64 w, .int .i64 h, .ro (.int .i64) pb, .ro (.int .i64) po], .agg [.int .i64 fl, .int .i64 ke, .int .i64 sw, .int .i64 be, .int .i64 we], .agg [.int .i64 ax, .int .i64 ay, .int .i64 vx, .int .i64 vy, .int .i64 sp], .int .i64 u] : List AVal), Sm qSm) : ∃ N n, ∀ α (k : AOut → Option α), evFn real tab ((twY fnRb spL).env real tab N n) N Tryz.f22 α [.agg [.int .i64 cx, .int .i64 cy, .int .i64 sd, .int .i64 w, .int .i64 h, .ro (.int .i64) pb, .ro (.int .i64) po], .agg [.int .i64 fl, .int .i64 ke, .int .i64 sw, .int .i64 be, .int .i64 we], .agg [.int .i64 ax, .int .i64 ay, .int .i64 vx, .int .i64 vy, .int .i64 sp], .int .i64 u] k = k (tkO (rgtB cx cy sd w h pb po fl ke sw be we ax ay vx vy sp u) (slwV cx cy sd w h pb po fl ke sw be we ax ay) (bdvV cx cy sd w h pb po fl ke sw be we ax ay) ax ay vx vy sp u) := by
  refine ⟨8, 8, fun α k => (rTick_text 8 0 α cx cy sd w h pb po fl ke sw be we ax ay vx vy sp u k).trans ?_⟩
  unfold tkO tsA tsB tsC tsD tsE tsZ rgtB grnB
  cases iceB cx cy sd w h pb po
  · rfl
  cases graB fl ke sw be we
  · rfl
  cases movB ax ay vx vy sp
  · rfl
  cases decide (0 ≤ u)
  · rfl
  cases decide (u ≤ 1000) <;> rfl
noncomputable def rTickS : Fsp := fun _ args k => match args with
  | [.agg [.int .i64 cx, .int .i64 cy, .int .i64 sd, .int .i64 w, .int .i64 h, .ro (.int .i64) pb, .ro (.int .i64) po], .agg [.int .i64 fl, .int .i64 ke, .int .i64 sw, .int .i64 be, .int .i64 we], .agg [.int .i64 ax, .int .i64 ay, .int .i64 vx, .int .i64 vy, .int .i64 sp], .int .i64 u] => k (tkO (rgtB cx cy sd w h pb po fl ke sw be we ax ay vx vy sp u) (slwV cx cy sd w h pb po fl ke sw be we ax ay) (bdvV cx cy sd w h pb po fl ke sw be we ax ay) ax ay vx vy sp u)
  | _ => none
theorem rTickS_ok : FspOk Tryz.prog 22 rTickS := tower_Y fnRb_ok spL_ok ⟨Tryz.func22, fun _ _ => by kernel_rfl⟩ (by intro α args k; unfold rTickS; split <;> rfl) fun args out hSm hEq => by
  unfold rTickS at hEq
  split at hEq
  · rename_i cx cy sd w h pb po fl ke sw be we ax ay vx vy sp u
    obtain ⟨N, n, e⟩ := rTick_fin cx cy sd w h pb po fl ke sw be we ax ay vx vy sp u hSm
    exact ⟨N, n, (e AOut some).trans hEq⟩
  · cases hEq
end Go.Proofs.YtgpljldfbhkdlaaGreat

namespace Go.Proofs.YtgpljldfbhkdlaaGreat
open Go.RowKit
section
variable {S A σ α : Type}
def runL (nx : Nat → S → Option S) (z : S → Bool) : Nat → Nat → S → Option (List S)
  | 0, _, _ => some []
  | n + 1, i, s => bif z s then some [] else match nx i s with
    | none => none
    | some s' => match runL nx z n (i + 1) s' with
      | none => none
      | some l => some (s' :: l)
def lastD (s : S) (l : List S) : S := l.foldl (fun _ x => x) s
theorem run_loop {f : σ → Option (LRes σ α)} {K : Nat → σ → Option α} (nx : Nat → S → Option S) (z : S → Bool) (st : Nat → A → S → σ) (up : A → S → A) (R : Option α) {b M : Nat} (inv : Nat → A → S → Prop)
    (h : ∀ i a s, i < M → inv i a s → z s = false → (nx i s = none → f (st i a s) = finL R) ∧ ∀ s', nx i s = some s' → f (st i a s) = some (.cont (st (i + 1) (up a s') s')) ∧ inv (i + 1) (up a s') s')
    (hz : ∀ i a s, i < M → inv i a s → z s = true → f (st i a s) = some (.brk b (st i a s)))
    (hend : ∀ a s, inv M a s → f (st M a s) = some (.brk b (st M a s))) :
    ∀ (n i : Nat) (a : A) (s : S), i + n = M → inv i a s → ∀ N, n < N → afterL (iterL N f (st i a s)) K = match runL nx z n i s with | none => R | some l => K b (st (i + l.length) (l.foldl up a) (lastD s l)) := by
  intro n
  induction n with
  | zero =>
    intro i a s hi hv N hN
    obtain ⟨N', rfl⟩ : ∃ N', N = N' + 1 := ⟨N - 1, by omega⟩
    have : i = M := by omega
    subst this
    unfold iterL
    rw [hend a s hv]
    rfl
  | succ n ih =>
    intro i a s hi hv N hN
    obtain ⟨N', rfl⟩ : ∃ N', N = N' + 1 := ⟨N - 1, by omega⟩
    unfold iterL runL
    cases hz' : z s
    · obtain ⟨h1, h2⟩ := h i a s (by omega) hv hz'
      cases hn : nx i s with
      | none =>
        rw [h1 hn]
        cases R <;> rfl
      | some s' =>
        obtain ⟨h3, h4⟩ := h2 s' hn
        rw [h3]
        have e := ih (i + 1) (up a s') s' (by omega) h4 N' (by omega)
        simp only [cond_false]
        rw [e]
        cases runL nx z n (i + 1) s' with
        | none => rfl
        | some l =>
          simp only [List.length_cons, List.foldl_cons, lastD]
          rw [show i + 1 + l.length = i + (l.length + 1) by omega]
    · rw [hz i a s (by omega) hv hz']
      rfl
theorem runL_len (nx : Nat → S → Option S) (z : S → Bool) : ∀ (n i : Nat) (s : S) l, runL nx z n i s = some l → l.length ≤ n
  | 0, i, s, l, h => by cases h; exact Nat.le_refl _
  | n + 1, i, s, l, h => by
    unfold runL at h
    cases hz : z s
    · rw [hz] at h
      simp only [cond_false] at h
      cases hn : nx i s with
      | none => rw [hn] at h; cases h
      | some s' =>
        rw [hn] at h
        simp only at h
        cases hr : runL nx z n (i + 1) s' with
        | none => rw [hr] at h; cases h
        | some l' =>
          rw [hr] at h
          cases h
          have := runL_len nx z n (i + 1) s' l' hr
          simp only [List.length_cons]; omega
    · rw [hz] at h; cases h; exact Nat.zero_le _
end
/-! Stones. -/
abbrev St5 := Int × Int × Int × Int × Int
def z5 (s : St5) : Bool := s.2.2.1 == 0 && (s.2.2.2.1 == 0 && true)
def mov5 (s : St5) : Bool := movB s.1 s.2.1 s.2.2.1 s.2.2.2.1 s.2.2.2.2
noncomputable def gnx (cx cy sd w h : Int) (pb po : List Int) (fl ke sw be we : Int) (l : List BrI) (i : Nat) (s : St5) : Option St5 := tkStep (slwV cx cy sd w h pb po fl ke sw be we s.1 s.2.1) (bdvV cx cy sd w h pb po fl ke sw be we s.1 s.2.1) s.1 s.2.1 s.2.2.1 s.2.2.2.1 s.2.2.2.2 (strN l i) (fun a b c d e => some (a, b, c, d, e)) none
theorem gnx_step {β : Type} (cx cy sd w h : Int) (pb po : List Int) (fl ke sw be we : Int) (l : List BrI) (i : Nat) (s : St5) (r : Int → Int → Int → Int → Int → β) (z : β) : tkStep (slwV cx cy sd w h pb po fl ke sw be we s.1 s.2.1) (bdvV cx cy sd w h pb po fl ke sw be we s.1 s.2.1) s.1 s.2.1 s.2.2.1 s.2.2.2.1 s.2.2.2.2 (strN l i) r z = match gnx cx cy sd w h pb po fl ke sw be we l i s with | none => z | some s' => r s'.1 s'.2.1 s'.2.2.1 s'.2.2.2.1 s'.2.2.2.2 := by
  unfold gnx tkStep
  cases tkR (slwV cx cy sd w h pb po fl ke sw be we s.1 s.2.1) s.2.2.1 s.2.2.2.1 (strN l i) <;> cases tkM (slwV cx cy sd w h pb po fl ke sw be we s.1 s.2.1) (bdvV cx cy sd w h pb po fl ke sw be we s.1 s.2.1) s.1 s.2.1 s.2.2.1 s.2.2.2.1 s.2.2.2.2 (strN l i) <;> rfl
theorem rgt5 (cx cy sd w h : Int) (pb po : List Int) (fl ke sw be we : Int) (l : List BrI) (i : Nat) (s : St5) (hi : iceB cx cy sd w h pb po = true) (hg : graB fl ke sw be we = true) (hl : l.all brmB = true) (hs : mov5 s = true) : rgtB cx cy sd w h pb po fl ke sw be we s.1 s.2.1 s.2.2.1 s.2.2.2.1 s.2.2.2.2 (strN l i) = true := by
  have := str_in hl i
  unfold rgtB
  rw [hi, hg, show movB s.1 s.2.1 s.2.2.1 s.2.2.2.1 s.2.2.2.2 = true from hs, show grnB (strN l i) = true from in_dec.2 this]
  rfl
theorem gnx_mov (cx cy sd w h : Int) (pb po : List Int) (fl ke sw be we : Int) (l : List BrI) (i : Nat) (s s' : St5) (hs : mov5 s = true) (hn : gnx cx cy sd w h pb po fl ke sw be we l i s = some s') : mov5 s' = true := by
  unfold gnx tkStep at hn
  cases hr : tkR (slwV cx cy sd w h pb po fl ke sw be we s.1 s.2.1) s.2.2.1 s.2.2.2.1 (strN l i)
  · rw [hr] at hn
    cases hm : tkM (slwV cx cy sd w h pb po fl ke sw be we s.1 s.2.1) (bdvV cx cy sd w h pb po fl ke sw be we s.1 s.2.1) s.1 s.2.1 s.2.2.1 s.2.2.2.1 s.2.2.2.2 (strN l i)
    · rw [hm] at hn; cases hn
    · rw [hm] at hn
      cases hn
      exact hm
  · rw [hr] at hn
    cases hn
    obtain ⟨p, v, sp⟩ := mov_iff.1 hs
    show movB s.1 s.2.1 0 0 0 = true
    exact mov_iff.2 ⟨p, ⟨⟨by omega, by omega⟩, ⟨by omega, by omega⟩⟩, ⟨by omega, by omega⟩⟩
noncomputable def gRL (cx cy sd w h : Int) (pb po : List Int) (fl ke sw be we : Int) (ax ay vx vy sp : Int) (l : List BrI) (m : Int) : Option (List St5) := runL (gnx cx cy sd w h pb po fl ke sw be we l) z5 m.toNat 0 (ax, ay, vx, vy, sp)
def rnP (o : Option (List St5)) (s : St5) : St5 := match o with | none => (0, 0, 0, 0, 0) | some l => lastD s l
def rnT (o : Option (List St5)) : Int := match o with | none => 0 | some l => (l.length : Int)
def rnE (o : Option (List St5)) : Int := match o with | none => 4 | some _ => 0
def rnX (c : Bool) (o : Option (List St5)) (s : St5) : Int := selI c (rnP o s).1
def rnY (c : Bool) (o : Option (List St5)) (s : St5) : Int := selI c (rnP o s).2.1
def rnU (c : Bool) (o : Option (List St5)) (s : St5) : Int := selI c (rnP o s).2.2.1
def rnV (c : Bool) (o : Option (List St5)) (s : St5) : Int := selI c (rnP o s).2.2.2.1
def rnS (c : Bool) (o : Option (List St5)) (s : St5) : Int := selI c (rnP o s).2.2.2.2
def rnN (c : Bool) (o : Option (List St5)) : Int := selI c (rnT o)
def rnZ (c : Bool) (o : Option (List St5)) : Int := bif c then rnE o else 2
def rnO (c : Bool) (o : Option (List St5)) (s : St5) : AOut := .ret (.tup [.agg [.int .i64 (rnX c o s), .int .i64 (rnY c o s), .int .i64 (rnU c o s), .int .i64 (rnV c o s), .int .i64 (rnS c o s)], .int .i64 (rnN c o), .int .i64 (rnZ c o)])
def rnB (cx cy sd w h : Int) (pb po : List Int) (fl ke sw be we : Int) (ax ay vx vy sp : Int) (l : List BrI) (m : Int) : Bool := iceB cx cy sd w h pb po && graB fl ke sw be we && movB ax ay vx vy sp && brsB l && tckB m
/-! Places of a way. -/
abbrev SpI := Int × Int × Unit
def spD : SpI := (0, 0, ())
def sp5 (s : St5) : SpI := (s.1, s.2.1, ())
def wyP (e : Int) (n : Nat) (t : Nat) : Bool := (t : Int).tmod e == 0 || (t : Int) == IntKind.i64.wrap ((n : Int) - 1)
def wayL (e : Int) (L : List SpI) (n : Nat) : List SpI := ((List.range n).filter (wyP e L.length)).map fun t => L.getD t spD
theorem wayL_next (e : Int) (L : List SpI) (n : Nat) : wayL e L (n + 1) = bif wyP e L.length n then wayL e L n ++ [L.getD n spD] else wayL e L n := by
  unfold wayL
  rw [List.range_succ, List.filter_append, List.map_append]
  cases h : wyP e L.length n
  · simp [h]
  · simp [h]
theorem wayL_len (e : Int) (L : List SpI) (n : Nat) : (wayL e L n).length ≤ n := by
  unfold wayL
  rw [List.length_map]
  exact Nat.le_trans (List.length_filter_le _ _) (by simp)
def wyL (c : Bool) (o : Option (List St5)) (s : St5) (e : Int) : List SpI := match c, o with
  | true, some l => wayL e ((s :: l).map sp5) (l.length + 1)
  | _, _ => []
def wyO (c : Bool) (o : Option (List St5)) (s : St5) (e : Int) : AOut := .ret (.tup [.ro (.recd (.cons (.int .i64) (.cons (.int .i64) .nil))) (wyL c o s e : List SpI), .int .i64 (rnZ c o)])
def wyB (e : Int) : Bool := decide (1 ≤ e) && decide (e ≤ 6000)
theorem foldl_snoc {S B : Type} (g : S → B) : ∀ (l : List S) (a : List B), l.foldl (fun a s => a ++ [g s]) a = a ++ l.map g
  | [], a => by simp
  | s :: l, a => by
    rw [List.foldl_cons, foldl_snoc g l (a ++ [g s])]
    simp
end Go.Proofs.YtgpljldfbhkdlaaGreat

namespace Go.Proofs.YtgpljldfbhkdlaaGreat
open Go.RowKit
noncomputable def fnRc : FuncId → Option Fsp := fun g =>
  if g = 22 then some rTickS else
  if g = 21 then some rStrS else
  fnRb g
theorem fnRc_ok : FsOk fnRc :=
  fs_cons rTickS_ok <|
  fs_cons rStrS_ok <|
  fnRb_ok
abbrev MvI := (Int × Int × Unit) × (Int × Int × Unit) × Int × Unit
def toMv (s : St5) : MvI := ((s.1, s.2.1, ()), (s.2.2.1, s.2.2.2.1, ()), s.2.2.2.2, ())
abbrev S7r := List MvI × Int × Int × Int × Int × Int × Int × Unit
noncomputable def rrG {α : Type} (a b c d e z : Int) (x : S7r) (k : AOut → Option α) : Option (LRes S7r α) :=
  bif z != 0 then finL (k (.ret (.tup [.ro (.recd (.cons (.recd (.cons (.int .i64) (.cons (.int .i64) .nil))) (.cons (.recd (.cons (.int .i64) (.cons (.int .i64) .nil))) (.cons (.int .i64) .nil)))) ([] : List MvI), iN z])))
  else if (x.1.length + ([((a, b, ()), (c, d, ()), e, ())] : List MvI).length) * 40 ≤ room then some (.cont (x.1 ++ ([((a, b, ()), (c, d, ()), e, ())] : List MvI), IntKind.i64.wrap (x.2.1 + 1), a, b, c, d, e, ())) else none
noncomputable def rrH {α : Type} (cx cy sd w h : Int) (pb po : List Int) (fl ke sw be we : Int) (l : List BrI) (x : S7r) (k : AOut → Option α) : Option (LRes S7r α) :=
  bif rgtB cx cy sd w h pb po fl ke sw be we x.2.2.1 x.2.2.2.1 x.2.2.2.2.1 x.2.2.2.2.2.1 x.2.2.2.2.2.2.1 (strN l x.2.1) then rrG (tsA true (slwV cx cy sd w h pb po fl ke sw be we x.2.2.1 x.2.2.2.1) (bdvV cx cy sd w h pb po fl ke sw be we x.2.2.1 x.2.2.2.1) x.2.2.1 x.2.2.2.1 x.2.2.2.2.1 x.2.2.2.2.2.1 x.2.2.2.2.2.2.1 (strN l x.2.1)) (tsB true (slwV cx cy sd w h pb po fl ke sw be we x.2.2.1 x.2.2.2.1) (bdvV cx cy sd w h pb po fl ke sw be we x.2.2.1 x.2.2.2.1) x.2.2.1 x.2.2.2.1 x.2.2.2.2.1 x.2.2.2.2.2.1 x.2.2.2.2.2.2.1 (strN l x.2.1)) (tsC true (slwV cx cy sd w h pb po fl ke sw be we x.2.2.1 x.2.2.2.1) (bdvV cx cy sd w h pb po fl ke sw be we x.2.2.1 x.2.2.2.1) x.2.2.1 x.2.2.2.1 x.2.2.2.2.1 x.2.2.2.2.2.1 x.2.2.2.2.2.2.1 (strN l x.2.1)) (tsD true (slwV cx cy sd w h pb po fl ke sw be we x.2.2.1 x.2.2.2.1) (bdvV cx cy sd w h pb po fl ke sw be we x.2.2.1 x.2.2.2.1) x.2.2.1 x.2.2.2.1 x.2.2.2.2.1 x.2.2.2.2.2.1 x.2.2.2.2.2.2.1 (strN l x.2.1)) (tsE true (slwV cx cy sd w h pb po fl ke sw be we x.2.2.1 x.2.2.2.1) (bdvV cx cy sd w h pb po fl ke sw be we x.2.2.1 x.2.2.2.1) x.2.2.1 x.2.2.2.1 x.2.2.2.2.1 x.2.2.2.2.2.1 x.2.2.2.2.2.2.1 (strN l x.2.1)) (tsZ true (slwV cx cy sd w h pb po fl ke sw be we x.2.2.1 x.2.2.2.1) (bdvV cx cy sd w h pb po fl ke sw be we x.2.2.1 x.2.2.2.1) x.2.2.1 x.2.2.2.1 x.2.2.2.2.1 x.2.2.2.2.2.1 x.2.2.2.2.2.2.1 (strN l x.2.1)) x k else none
noncomputable def rrF {α : Type} (cx cy sd w h : Int) (pb po : List Int) (fl ke sw be we : Int) (l : List BrI) (m : Int) (k : AOut → Option α) (x : S7r) : Option (LRes S7r α) :=
  bif decide (x.2.1 < m) then
    bif x.2.2.2.2.1 == 0 then
      bif !(x.2.2.2.2.2.1 == 0) then rrH cx cy sd w h pb po fl ke sw be we l x k else some (.brk 0 (x.1, x.2.1, x.2.2.1, x.2.2.2.1, x.2.2.2.2.1, x.2.2.2.2.2.1, x.2.2.2.2.2.2.1, ()))
    else rrH cx cy sd w h pb po fl ke sw be we l x k
  else some (.brk 0 (x.1, x.2.1, x.2.2.1, x.2.2.2.1, x.2.2.2.2.1, x.2.2.2.2.2.1, x.2.2.2.2.2.2.1, ()))
noncomputable def rrT {α : Type} (N : Nat) (cx cy sd w h : Int) (pb po : List Int) (fl ke sw be we : Int) (ax ay vx vy sp : Int) (l : List BrI) (m : Int) (k : AOut → Option α) : Option α :=
  afterL (iterL N (rrF cx cy sd w h pb po fl ke sw be we l m k) ([((ax, ay, ()), (vx, vy, ()), sp, ())], 0, ax, ay, vx, vy, sp, ())) fun id y => if id = 0 then k (.ret (.tup [.ro (.recd (.cons (.recd (.cons (.int .i64) (.cons (.int .i64) .nil))) (.cons (.recd (.cons (.int .i64) (.cons (.int .i64) .nil))) (.cons (.int .i64) .nil)))) y.1, iN 0])) else none
set_option maxRecDepth 100000 in
theorem rrun_text (N n0 : Nat) (α : Type) (cx cy sd w h : Int) (pb po : List Int) (fl ke sw be we : Int) (ax ay vx vy sp : Int) (l : List BrI) (m : Int) (k : AOut → Option α) : evFn real tab ((twY fnRc spL).env real tab N (n0 + 8)) N Tryz.f65 α [.agg [.int .i64 cx, .int .i64 cy, .int .i64 sd, .int .i64 w, .int .i64 h, .ro (.int .i64) pb, .ro (.int .i64) po], .agg [.int .i64 fl, .int .i64 ke, .int .i64 sw, .int .i64 be, .int .i64 we], .agg [.int .i64 ax, .int .i64 ay, .int .i64 vx, .int .i64 vy, .int .i64 sp], .ro (.recd (.cons (.int .i64) (.cons (.int .i64) (.cons (.int .i64) .nil)))) l, .int .i64 m] k = rrT N cx cy sd w h pb po fl ke sw be we ax ay vx vy sp l m k := by kernel_rfl
def allM (o : Option (List St5)) (s : St5) : List MvI := match o with | none => [] | some l => (s :: l).map toMv
theorem z5_two (s : St5) : z5 s = ((s.2.2.1 == 0) && (s.2.2.2.1 == 0)) := by unfold z5; rw [Bool.and_true]
def st7r (i : Nat) (a : List MvI) (s : St5) : S7r := (a, (i : Int), s.1, s.2.1, s.2.2.1, s.2.2.2.1, s.2.2.2.2, ())
theorem rrT_fin {α : Type} (cx cy sd w h : Int) (pb po : List Int) (fl ke sw be we : Int) (ax ay vx vy sp : Int) (l : List BrI) (m : Int) (hi : iceB cx cy sd w h pb po = true) (hg : graB fl ke sw be we = true) (hm : movB ax ay vx vy sp = true) (hl : l.all brmB = true) (h0 : 0 ≤ m ∧ m ≤ 6000) (k : AOut → Option α) : rrT (m.toNat + 1) cx cy sd w h pb po fl ke sw be we ax ay vx vy sp l m k = k (.ret (.tup [.ro (.recd (.cons (.recd (.cons (.int .i64) (.cons (.int .i64) .nil))) (.cons (.recd (.cons (.int .i64) (.cons (.int .i64) .nil))) (.cons (.int .i64) .nil)))) (allM (gRL cx cy sd w h pb po fl ke sw be we ax ay vx vy sp l m) (ax, ay, vx, vy, sp) : List MvI), iN (rnE (gRL cx cy sd w h pb po fl ke sw be we ax ay vx vy sp l m))])) := by
  unfold rrT
  refine (run_loop (S := St5) (A := List MvI) (gnx cx cy sd w h pb po fl ke sw be we l) z5 st7r (fun a s => a ++ [toMv s]) (k (.ret (.tup [.ro (.recd (.cons (.recd (.cons (.int .i64) (.cons (.int .i64) .nil))) (.cons (.recd (.cons (.int .i64) (.cons (.int .i64) .nil))) (.cons (.int .i64) .nil)))) ([] : List MvI), iN 4]))) (b := 0) (M := m.toNat) (fun i a s => mov5 s = true ∧ a.length = i + 1) (fun i a s hM hv hz => ?_) (fun i a s hM hv hz => ?_) (fun a s hv => ?_) m.toNat 0 [((ax, ay, ()), (vx, vy, ()), sp, ())] (ax, ay, vx, vy, sp) (by omega) ⟨hm, rfl⟩ (m.toNat + 1) (by omega)).trans ?_
  · have e1 : decide (((i : Nat) : Int) < m) = true := decide_eq_true (by omega)
    have e2 : IntKind.i64.wrap ((i : Int) + 1) = ((i + 1 : Nat) : Int) := by rw [i64_in _ (by omega)]; rfl
    have er : (a.length + 1) * 40 ≤ room := by have := hv.2; simp only [room]; omega
    have eH : rrH cx cy sd w h pb po fl ke sw be we l (st7r i a s) k = match gnx cx cy sd w h pb po fl ke sw be we l i s with | none => finL (k (.ret (.tup [.ro (.recd (.cons (.recd (.cons (.int .i64) (.cons (.int .i64) .nil))) (.cons (.recd (.cons (.int .i64) (.cons (.int .i64) .nil))) (.cons (.int .i64) .nil)))) ([] : List MvI), iN 4]))) | some s' => some (.cont (st7r (i + 1) (a ++ [toMv s']) s')) := by
      unfold rrH st7r
      simp only []
      rw [rgt5 cx cy sd w h pb po fl ke sw be we l i s hi hg hl hv.1, cond_true]
      unfold tsA tsB tsC tsD tsE tsZ selI
      simp only [cond_true]
      rw [gnx_step cx cy sd w h pb po fl ke sw be we l i s, gnx_step cx cy sd w h pb po fl ke sw be we l i s, gnx_step cx cy sd w h pb po fl ke sw be we l i s, gnx_step cx cy sd w h pb po fl ke sw be we l i s, gnx_step cx cy sd w h pb po fl ke sw be we l i s, gnx_step cx cy sd w h pb po fl ke sw be we l i s]
      cases gnx cx cy sd w h pb po fl ke sw be we l i s with
      | none => rfl
      | some s' =>
        unfold rrG
        simp only [List.length_singleton, if_pos er, e2, bne_self_eq_false, cond_false]
        rfl
    have e : rrF cx cy sd w h pb po fl ke sw be we l m k (st7r i a s) = rrH cx cy sd w h pb po fl ke sw be we l (st7r i a s) k := by
      rw [z5_two] at hz
      have hd : rrF cx cy sd w h pb po fl ke sw be we l m k (st7r i a s) = bif decide (((i : Nat) : Int) < m) then (bif s.2.2.1 == 0 then (bif !(s.2.2.2.1 == 0) then rrH cx cy sd w h pb po fl ke sw be we l (st7r i a s) k else some (.brk 0 (st7r i a s))) else rrH cx cy sd w h pb po fl ke sw be we l (st7r i a s) k) else some (.brk 0 (st7r i a s)) := rfl
      rw [hd, e1, cond_true]
      cases h1 : (s.2.2.1 == 0)
      · rfl
      · rw [h1] at hz
        rw [Bool.true_and] at hz
        rw [hz]; rfl
    rw [e, eH]
    refine ⟨fun hn => by rw [hn], fun s' hn => ⟨by rw [hn], gnx_mov cx cy sd w h pb po fl ke sw be we l i s s' hv.1 hn, by rw [List.length_append, List.length_singleton, hv.2]⟩⟩
  · have e1 : decide (((i : Nat) : Int) < m) = true := decide_eq_true (by omega)
    have hd : rrF cx cy sd w h pb po fl ke sw be we l m k (st7r i a s) = bif decide (((i : Nat) : Int) < m) then (bif s.2.2.1 == 0 then (bif !(s.2.2.2.1 == 0) then rrH cx cy sd w h pb po fl ke sw be we l (st7r i a s) k else some (.brk 0 (st7r i a s))) else rrH cx cy sd w h pb po fl ke sw be we l (st7r i a s) k) else some (.brk 0 (st7r i a s)) := rfl
    rw [z5_two, Bool.and_eq_true] at hz
    rw [hd, e1, hz.1, hz.2]; rfl
  · have e1 : decide (((m.toNat : Nat) : Int) < m) = false := decide_eq_false (by omega)
    unfold rrF st7r
    simp only [e1, cond_false]
  · unfold gRL
    cases runL (gnx cx cy sd w h pb po fl ke sw be we l) z5 m.toNat 0 (ax, ay, vx, vy, sp) with
    | none => rfl
    | some L =>
      have ef : L.foldl (fun a s => a ++ [toMv s]) [((ax, ay, ()), (vx, vy, ()), sp, ())] = ((ax, ay, vx, vy, sp) :: L).map toMv := by rw [foldl_snoc]; rfl
      simp only [st7r, ef, if_pos]
      rfl
noncomputable def rrunS : Fsp := fun _ args k => match args with
  | [.agg [.int .i64 cx, .int .i64 cy, .int .i64 sd, .int .i64 w, .int .i64 h, .ro (.int .i64) pb, .ro (.int .i64) po], .agg [.int .i64 fl, .int .i64 ke, .int .i64 sw, .int .i64 be, .int .i64 we], .agg [.int .i64 ax, .int .i64 ay, .int .i64 vx, .int .i64 vy, .int .i64 sp], .ro (.recd (.cons (.int .i64) (.cons (.int .i64) (.cons (.int .i64) .nil)))) l, .int .i64 m] => bif rnB cx cy sd w h pb po fl ke sw be we ax ay vx vy sp l m then k (.ret (.tup [.ro (.recd (.cons (.recd (.cons (.int .i64) (.cons (.int .i64) .nil))) (.cons (.recd (.cons (.int .i64) (.cons (.int .i64) .nil))) (.cons (.int .i64) .nil)))) (allM (gRL cx cy sd w h pb po fl ke sw be we ax ay vx vy sp l m) (ax, ay, vx, vy, sp) : List MvI), iN (rnE (gRL cx cy sd w h pb po fl ke sw be we ax ay vx vy sp l m))])) else none
  | _ => none
theorem rrunS_ok : FspOk Tryz.prog 65 rrunS := tower_Y fnRc_ok spL_ok ⟨Tryz.func65, fun _ _ => by kernel_rfl⟩ (by intro α args k; unfold rrunS; split <;> simp only [cond_bind, Option.bind_some, Option.bind_none]) fun args out hSm hEq => by
  unfold rrunS at hEq
  split at hEq
  · rename_i cx cy sd w h pb po fl ke sw be we ax ay vx vy sp l m
    have hEq : (bif rnB cx cy sd w h pb po fl ke sw be we ax ay vx vy sp (l : List BrI) m then some (AOut.ret (.tup [.ro (.recd (.cons (.recd (.cons (.int .i64) (.cons (.int .i64) .nil))) (.cons (.recd (.cons (.int .i64) (.cons (.int .i64) .nil))) (.cons (.int .i64) .nil)))) (allM (gRL cx cy sd w h pb po fl ke sw be we ax ay vx vy sp l m) (ax, ay, vx, vy, sp) : List MvI), iN (rnE (gRL cx cy sd w h pb po fl ke sw be we ax ay vx vy sp l m))])) else none) = some out := hEq
    cases hc : rnB cx cy sd w h pb po fl ke sw be we ax ay vx vy sp (l : List BrI) m
    · rw [hc] at hEq; cases hEq
    · rw [hc] at hEq
      unfold rnB brsB tckB at hc
      simp only [Bool.and_eq_true, decide_eq_true_eq] at hc
      obtain ⟨⟨⟨⟨hi, hg⟩, hm⟩, _, hb⟩, h1, h2⟩ := hc
      exact ⟨m.toNat + 1, 8, (rrun_text (m.toNat + 1) 0 AOut cx cy sd w h pb po fl ke sw be we ax ay vx vy sp l m some).trans ((rrT_fin cx cy sd w h pb po fl ke sw be we ax ay vx vy sp l m hi hg hm hb ⟨h1, h2⟩ some).trans hEq)⟩
  · cases hEq
noncomputable def fnRd : FuncId → Option Fsp := fun g =>
  if g = 65 then some rrunS else
  fnRc g
theorem fnRd_ok : FsOk fnRd :=
  fs_cons rrunS_ok <|
  fnRc_ok
end Go.Proofs.YtgpljldfbhkdlaaGreat
