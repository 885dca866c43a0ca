/- Parts of the proof, in build order. -/
import Derived.Test.YtbcjhjidhhecaaaGreatM9
import Derived.Test.YtbcjhjidhhecaaaGreatM8
/- The reference's roots (layer 1). -/
namespace Go.Proofs.YtbcjhjidhhecaaaGreat
open Go.RowKit

--AT fnR1 spL twY
def rrB (a : List Int) : Bool := isD a && decide (vl a < 332306998946228968225951765070086144)
/-- A round, with the number that is tried. -/
def rqBody {α : Type} (a : List Int) (n b m : Int) : Option (LRes (Int × Int × Unit) α) :=
  bif decide (b > 0) then
    bif decide (0 ≤ m) && decide (m ≤ 9223372036854775807) then
      bif isD (dg m) && isD (dg m) then
        bif isD (dg (vl (dg m) * vl (dg m))) && isD a then
          bif decide (cmp3 (vl (dg (vl (dg m) * vl (dg m)))) (vl a) ≤ 0) then some (LRes.cont (m, IntKind.i64.wrap (b.tdiv 2), ()))
          else some (LRes.cont (n, IntKind.i64.wrap (b.tdiv 2), ()))
        else none
      else none
    else none
  else some (LRes.brk 0 (n, b, ()))
def rqE (L : Nat) : Int := if IntKind.i64.wrap (IntKind.i64.wrap ((IntKind.i64.wrap (15 * (L : Int))).tdiv 2) + 1) < 58 then IntKind.i64.wrap (IntKind.i64.wrap ((IntKind.i64.wrap (15 * (L : Int))).tdiv 2) + 1) else 58
abbrev nbO (n : Int) (b : Bool) : AOut := .ret (.tup [.int .i64 n, .bool b])
def rqEnd {α : Type} (a : List Int) (y : Int) (k : AOut → Option α) : Option α :=
  bif decide (0 ≤ y) && decide (y ≤ 9223372036854775807) then
    bif isD (dg y) && isD (dg y) then
      bif isD (dg (vl (dg y) * vl (dg y))) && isD a then k (nbO y (cmp3 (vl (dg (vl (dg y) * vl (dg y)))) (vl a) == 0))
      else none
    else none
  else none
set_option maxRecDepth 100000 in
theorem rroot_text (N n0 : Nat) (α : Type) (a : List Int) (k : AOut → Option α) : evFn real tab ((twY fnR1 spL).env real tab N (n0 + 8)) N Tryz.f132 α [.ro (.int .i64) a] k =
    if rqE a.length < 0 then none
    else afterL (iterL N (fun x : Int × Int × Unit => rqBody a x.1 x.2.1 (IntKind.i64.wrap (x.1 + x.2.1))) (0, IntKind.i64.wrap (1 * 2 ^ min (rqE a.length).toNat 64), ())) fun id y => if id = 0 then rqEnd a y.1 k else none := by kernel_rfl
def rqN (L : Nat) : Nat := min 58 (15 * L / 2 + 1)
theorem rq_is : ∀ L, L < 13 → (¬ rqE L < 0) ∧ IntKind.i64.wrap (1 * 2 ^ min (rqE L).toNat 64) = ((2 ^ (rqN L + 1) / 2 : Nat) : Int) ∧ (rqN L = 58 ∨ 32768 ^ L ≤ 2 ^ (rqN L + 1) * 2 ^ (rqN L + 1)) ∧ rqN L ≤ 58 := by decide +kernel
theorem rr_bs {a : List Int} (h : rrB a = true) : rtP (vl a) (2 ^ (rqN a.length + 1)) = false ∧ ((bs (rtP (vl a)) (rqN a.length + 1) 0 : Nat) : Int) = rt (vl a) ∧ bs (rtP (vl a)) (rqN a.length + 1) 0 < 2 ^ 59 := by
  simp only [rrB, Bool.and_eq_true, decide_eq_true_eq] at h
  obtain ⟨hD, hv⟩ := h
  have h0 := (isD_iff.1 hD).2.1
  obtain ⟨_, _, c, d⟩ := rq_is a.length (by have := isD_len hD; omega)
  have lt := vl_lt (isD_low hD)
  have np : rtP (vl a) (2 ^ (rqN a.length + 1)) = false := by
    simp only [rtP, decide_eq_false_iff_not]
    rw [← Int.natCast_mul]
    rcases c with c | c
    · rw [c]
      have : ((2 ^ (58 + 1) * 2 ^ (58 + 1) : Nat) : Int) = 332306998946228968225951765070086144 := rfl
      rw [this]; omega
    · have : ((32768 ^ a.length : Nat) : Int) = (32768 : Int) ^ a.length := by simp
      omega
  have p0 : rtP (vl a) 0 = true := by simp only [rtP, decide_eq_true_eq]; omega
  have np' : rtP (vl a) (0 + 2 ^ (rqN a.length + 1)) = false := by rw [Nat.zero_add]; exact np
  have np63 : rtP (vl a) (0 + 2 ^ 63) = false := by
    simp only [rtP, decide_eq_false_iff_not]
    have : ((0 + 2 ^ 63 : Nat) : Int) * ((0 + 2 ^ 63 : Nat) : Int) = 85070591730234615865843651857942052864 := rfl
    rw [this]; omega
  obtain ⟨e1, e2, e3, e4⟩ := bs_spec (rtP (vl a)) (fun m n => rtP_anti m n) _ 0 p0 np'
  refine ⟨np, ?_, ?_⟩
  · rw [rt_bs, bs_eq (rtP (vl a)) (fun m n => rtP_anti m n) p0 np63 e1 e2]
  · have : 2 ^ (rqN a.length + 1) ≤ 2 ^ 59 := Nat.pow_le_pow_right (by omega) (by omega)
    omega
theorem rq_loop {α : Type} {a : List Int} (h : rrB a = true) (K : Nat → Int × Int × Unit → Option α) {N : Nat} (hN : 60 < N) :
    afterL (iterL N (fun x : Int × Int × Unit => rqBody a x.1 x.2.1 (IntKind.i64.wrap (x.1 + x.2.1))) (0, ((2 ^ (rqN a.length + 1) / 2 : Nat) : Int), ())) K = K 0 (rt (vl a), 0, ()) := by
  obtain ⟨np, eb, _⟩ := rr_bs h
  have h' := h
  simp only [rrB, Bool.and_eq_true, decide_eq_true_eq] at h'
  obtain ⟨hD, hv⟩ := h'
  have h0 := (isD_iff.1 hD).2.1
  obtain ⟨_, _, _, d⟩ := rq_is a.length (by have := isD_len hD; omega)
  have hle : 2 ^ (rqN a.length + 1) ≤ 2 ^ 59 := Nat.pow_le_pow_right (by omega) (by omega)
  have e := bit_searchK (f := fun x : Int × Int × Unit => rqBody (α := α) a x.1 x.2.1 (IntKind.i64.wrap (x.1 + x.2.1))) 0 (rtP (vl a)) (rqN a.length + 1) (fun n k a1 a2 a3 => ?_) (fun n => rfl) (rqN a.length + 1) 0 (Nat.zero_mod _) (by omega) (by simp only [rtP, decide_eq_true_eq]; omega) N (by omega)
  · have e' : iterL N (fun x : Int × Int × Unit => rqBody (α := α) a x.1 x.2.1 (IntKind.i64.wrap (x.1 + x.2.1))) (0, ((2 ^ (rqN a.length + 1) / 2 : Nat) : Int), ()) = some (.brk 0 (((bs (rtP (vl a)) (rqN a.length + 1) 0 : Nat) : Int), 0, ())) := e
    rw [e', eb]
    rfl
  · have p59 : (2 : Nat) ^ 59 = 576460752303423488 := rfl
    have hk : 2 ^ (k + 1) = 2 ^ k + 2 ^ k := by rw [Nat.pow_succ]; omega
    have hpos : 0 < 2 ^ k := Nat.two_pow_pos k
    have hw : IntKind.i64.wrap ((n : Int) + ((2 ^ k : Nat) : Int)) = ((n + 2 ^ k : Nat) : Int) := by rw [i64_in _ (by omega)]; omega
    have hsh : IntKind.i64.wrap ((((2 ^ k : Nat) : Int)).tdiv 2) = ((2 ^ k / 2 : Nat) : Int) := by
      rw [Int.tdiv_eq_ediv_of_nonneg (by omega), i64_in _ (by omega)]; omega
    have hm : (0 : Int) ≤ ((n + 2 ^ k : Nat) : Int) ∧ ((n + 2 ^ k : Nat) : Int) ≤ 576460752303423488 := by omega
    have hp : rtP (vl a) (n + 2 ^ k) = decide (((n + 2 ^ k : Nat) : Int) * ((n + 2 ^ k : Nat) : Int) ≤ vl a) := rfl
    have m2 := i7_D.sq_in' hm.1 hm.2
    have hpos2 : ((2 ^ k : Nat) : Int) > 0 := by omega
    show rqBody a (n : Int) ((2 ^ k : Nat) : Int) (IntKind.i64.wrap ((n : Int) + ((2 ^ k : Nat) : Int))) = _
    unfold rqBody
    rw [decide_eq_true hpos2, hw, hsh, hp]
    generalize hme : ((n + 2 ^ k : Nat) : Int) = m at *
    rw [decide_eq_true hm.1, decide_eq_true (show m ≤ 9223372036854775807 by omega), isD_dg (n := m) ⟨hm.1, by omega⟩, vl_dg _ hm.1, isD_dg (n := m * m) ⟨m2.1, by omega⟩, vl_dg _ m2.1, hD]
    simp only [Bool.and_self, cond_true]
    by_cases hq : m * m ≤ vl a
    · rw [decide_eq_true (cmp3_le0.2 hq), decide_eq_true hq]
      simp only [cond_true]
      rw [← hme]
    · rw [decide_eq_false (fun c => hq (cmp3_le0.1 c)), decide_eq_false hq]
      rfl
theorem rt_in {a : List Int} (h : rrB a = true) : 0 ≤ rt (vl a) ∧ rt (vl a) < 576460752303423488 := by
  obtain ⟨_, eb, lt⟩ := rr_bs h
  have p59 : (2 : Nat) ^ 59 = 576460752303423488 := rfl
  omega
theorem cmp3_eq0 (a b : Int) : (cmp3 a b == 0) = (a == b) := by
  unfold cmp3
  rw [Bool.eq_iff_iff]
  simp only [beq_iff_eq]
  split <;> (try split) <;> omega
--FIN rroot | besom/besomref01.root | (a : List Int) | .ro (.int .i64) a | nbO (rt (vl a)) (rt (vl a) * rt (vl a) == vl a) | rrB a
theorem rroot_fin (a : List Int) (hs : ∀ qSm ∈ ([.ro (.int .i64) a] : List AVal), Sm qSm) (hCo : (rrB a) = true) : ∃ N n, ∀ α (k : AOut → Option α), evFn real tab ((twY fnR1 spL).env real tab N n) N Tryz.f132 α [.ro (.int .i64) a] k = k (nbO (rt (vl a)) (rt (vl a) * rt (vl a) == vl a)) := by
  refine ⟨61, 8, fun α k => (rroot_text 61 0 α a k).trans ?_⟩
  have hCo' := hCo
  simp only [rrB, Bool.and_eq_true, decide_eq_true_eq] at hCo'
  obtain ⟨hD, hv⟩ := hCo'
  obtain ⟨c1, c2, _⟩ := rq_is a.length (by have := isD_len hD; omega)
  obtain ⟨r0, r1⟩ := rt_in hCo
  have m2 := i7_D.sq_in' r0 (show rt (vl a) ≤ 576460752303423488 by omega)
  rw [if_neg c1, c2, rq_loop hCo _ (by omega), if_pos rfl]
  unfold rqEnd
  rw [decide_eq_true r0, decide_eq_true (show rt (vl a) ≤ 9223372036854775807 by omega), isD_dg (n := rt (vl a)) ⟨r0, by omega⟩, vl_dg _ r0, isD_dg (n := rt (vl a) * rt (vl a)) ⟨m2.1, by omega⟩, vl_dg _ m2.1, hD, cmp3_eq0]
  rfl
--CON rroot
noncomputable def rrootS : Fsp := fun _ args k => match args with
  | [.ro (.int .i64) a] => bif rrB a then (k (nbO (rt (vl a)) (rt (vl a) * rt (vl a) == vl a))) else none
  | _ => none
theorem rrootS_ok : FspOk Tryz.prog 132 rrootS := tower_Y fnR1_ok spL_ok ⟨Tryz.func132, fun _ _ => by kernel_rfl⟩ (by intro α args k; unfold rrootS; split <;> simp only [cond_bind, Option.bind_some, Option.bind_none]) fun args out hSm hEq => by
  unfold rrootS at hEq
  split at hEq
  · rename_i a
    cases hc : rrB a
    · rw [hc] at hEq; cases hEq
    · rw [hc] at hEq
      obtain ⟨N, n, e⟩ := rroot_fin a hSm hc
      exact ⟨N, n, (e AOut some).trans hEq⟩
  · cases hEq
--END
--FS fnR2 | fnR1 | rroot
noncomputable def fnR2 : FuncId → Option Fsp := fun g =>
  if g = 132 then some rrootS else
  fnR1 g
theorem fnR2_ok : FsOk fnR2 :=
  fs_cons rrootS_ok <|
  fnR1_ok
--END
--AT fnR2 spL twY
def roT {α : Type} (a : List Int) (n v : Int) (k : AOut → Option α) : Option α :=
  bif decide (0 ≤ IntKind.i64.wrap (IntKind.i64.wrap (2 * n) + 1)) && decide (IntKind.i64.wrap (IntKind.i64.wrap (2 * n) + 1) ≤ 9223372036854775807) then
    bif isD a && isD (dg (IntKind.i64.wrap (1 * 2 ^ min (Int.toNat 2) 64))) then
      bif isD (dg (IntKind.i64.wrap (IntKind.i64.wrap (2 * n) + 1))) && isD (dg (IntKind.i64.wrap (IntKind.i64.wrap (2 * n) + 1))) then
        bif isD (dg (v * vl (dg (IntKind.i64.wrap (1 * 2 ^ min (Int.toNat 2) 64))))) && isD (dg (vl (dg (IntKind.i64.wrap (IntKind.i64.wrap (2 * n) + 1))) * vl (dg (IntKind.i64.wrap (IntKind.i64.wrap (2 * n) + 1))))) then
          bif decide (cmp3 (vl (dg (v * vl (dg (IntKind.i64.wrap (1 * 2 ^ min (Int.toNat 2) 64)))))) (vl (dg (vl (dg (IntKind.i64.wrap (IntKind.i64.wrap (2 * n) + 1))) * vl (dg (IntKind.i64.wrap (IntKind.i64.wrap (2 * n) + 1)))))) ≥ 0) then k (nbO (IntKind.i64.wrap (n + 1)) true)
          else k (nbO n true)
        else none
      else none
    else none
  else none
set_option maxRecDepth 100000 in
theorem rrooted_text (N n0 : Nat) (α : Type) (a : List Int) (how : Int) (k : AOut → Option α) : evFn real tab ((twY fnR2 spL).env real tab N (n0 + 8)) N Tryz.f98 α [.ro (.int .i64) a, .int .i64 how] k =
    bif rrB a then
      bif how == 2 then
        bif how == 3 then roT a (rt (vl a)) (vl a) k
        else bif !(rt (vl a) * rt (vl a) == vl a) then k (nbO (IntKind.i64.wrap (rt (vl a) + 1)) true) else k (nbO (rt (vl a)) true)
      else bif how == 3 then roT a (rt (vl a)) (vl a) k else k (nbO (rt (vl a)) true)
    else none := by kernel_rfl
theorem roT_fin {α : Type} {a : List Int} {n v : Int} (ha : isD a = true) (hn : 0 ≤ n ∧ n < 576460752303423488) (hv : 0 ≤ v ∧ v < 332306998946228968225951765070086144) (k : AOut → Option α) : roT a n v k = k (nbO (n + (bif decide ((2 * n + 1) * (2 * n + 1) ≤ 4 * v) then 1 else 0)) true) := by
  have two : IntKind.i64.wrap (1 * 2 ^ min (Int.toNat 2) 64) = 4 := by decide
  have m2 := i7_D.sq_in' (x := 2 * n + 1) (B := 1152921504606846976) (by omega) (by omega)
  unfold roT
  rw [i64_in (2 * n) (by omega), i64_in (2 * n + 1) (by omega), i64_in (n + 1) (by omega), two, decide_eq_true (show 0 ≤ 2 * n + 1 by omega), decide_eq_true (show 2 * n + 1 ≤ 9223372036854775807 by omega), ha, isD_dg (n := 4) ⟨by omega, by omega⟩, isD_dg (n := 2 * n + 1) ⟨by omega, by omega⟩, vl_dg 4 (by omega), vl_dg (2 * n + 1) (by omega), isD_dg (n := v * 4) ⟨by omega, by omega⟩, isD_dg (n := (2 * n + 1) * (2 * n + 1)) ⟨m2.1, by omega⟩, vl_dg (v * 4) (by omega), vl_dg _ m2.1]
  simp only [Bool.and_self, cond_true]
  by_cases h : (2 * n + 1) * (2 * n + 1) ≤ 4 * v
  · rw [decide_eq_true h, decide_eq_true (cmp3_ge.2 (show (2 * n + 1) * (2 * n + 1) ≤ v * 4 by omega))]
    rfl
  · rw [decide_eq_false h, decide_eq_false (fun c => h (by have := cmp3_ge.1 c; omega)), cond_false, cond_false, Int.add_zero]
--FIN rrooted | besom/besomref01.rooted | (a : List Int) (how : Int) | .ro (.int .i64) a, .int .i64 how | nbO (rtN (vl a) how) true | rrB a
theorem rrooted_fin (a : List Int) (how : Int) (hs : ∀ qSm ∈ ([.ro (.int .i64) a, .int .i64 how] : List AVal), Sm qSm) (hCo : (rrB a) = true) : ∃ N n, ∀ α (k : AOut → Option α), evFn real tab ((twY fnR2 spL).env real tab N n) N Tryz.f98 α [.ro (.int .i64) a, .int .i64 how] k = k (nbO (rtN (vl a) how) true) := by
  refine ⟨8, 8, fun α k => (rrooted_text 8 0 α a how k).trans ?_⟩
  obtain ⟨r0, r1⟩ := rt_in hCo
  have hCo' := hCo
  simp only [rrB, Bool.and_eq_true, decide_eq_true_eq] at hCo'
  have h0 := (isD_iff.1 hCo'.1).2.1
  rw [hCo, cond_true, roT_fin hCo'.1 ⟨r0, r1⟩ ⟨h0, hCo'.2⟩ k, i64_in (rt (vl a) + 1) (by omega)]
  unfold rtN rtUp
  by_cases h2 : how = 2
  · subst h2
    cases rt (vl a) * rt (vl a) == vl a
    · rfl
    · show k _ = k _
      simp
  · rw [beq_eq_false_iff_ne.2 h2, if_neg h2, cond_false]
    by_cases h3 : how = 3
    · subst h3
      rfl
    · rw [beq_eq_false_iff_ne.2 h3, if_neg h3, cond_false, cond_false, Int.add_zero]
--CON rrooted
noncomputable def rrootedS : Fsp := fun _ args k => match args with
  | [.ro (.int .i64) a, .int .i64 how] => bif rrB a then (k (nbO (rtN (vl a) how) true)) else none
  | _ => none
theorem rrootedS_ok : FspOk Tryz.prog 98 rrootedS := tower_Y fnR2_ok spL_ok ⟨Tryz.func98, fun _ _ => by kernel_rfl⟩ (by intro α args k; unfold rrootedS; split <;> simp only [cond_bind, Option.bind_some, Option.bind_none]) fun args out hSm hEq => by
  unfold rrootedS at hEq
  split at hEq
  · rename_i a how
    cases hc : rrB a
    · rw [hc] at hEq; cases hEq
    · rw [hc] at hEq
      obtain ⟨N, n, e⟩ := rrooted_fin a how hSm hc
      exact ⟨N, n, (e AOut some).trans hEq⟩
  · cases hEq
--END
--FS fnR3 | fnR2 | rrooted
noncomputable def fnR3 : FuncId → Option Fsp := fun g =>
  if g = 98 then some rrootedS else
  fnR2 g
theorem fnR3_ok : FsOk fnR3 :=
  fs_cons rrootedS_ok <|
  fnR2_ok
--END
--AT fnR3 spL twY
--TEXT rRoot | twY fnR3 spL | 8 | besom/besomref01.Root | (x how : Int) | .int .i64 x, .int .i64 how
--KEY be9fc24d12
set_option maxRecDepth 100000 in
theorem rRoot_text (N n0 : Nat) (α : Type) (x how : Int) (k : AOut → Option α) : evFn real tab ((twY fnR3 spL).env real tab N (n0 + 8)) N Tryz.f49 α [.int .i64 x, .int .i64 how] k =
  bif !okB x then k (AOut.ret (AVal.tup [AVal.int IntKind.i64 0, AVal.int IntKind.i64 2]))
  else
    bif !wayB how then k (AOut.ret (AVal.tup [AVal.int IntKind.i64 0, AVal.int IntKind.i64 2]))
    else
      bif decide (x < 0) then k (AOut.ret (AVal.tup [AVal.int IntKind.i64 0, AVal.int IntKind.i64 11]))
      else
        bif decide (0 ≤ x) && decide (x ≤ 9223372036854775807) then
          bif isD (dg x) && isD (dg (IntKind.i64.wrap (1 * 2 ^ min (Int.toNat 16) 64))) then
            bif rrB (dg (vl (dg x) * vl (dg (IntKind.i64.wrap (1 * 2 ^ min (Int.toNat 16) 64))))) then
              k
                (AOut.ret
                  (AVal.tup
                    [AVal.int IntKind.i64
                        (ftV (rtN (vl (dg (vl (dg x) * vl (dg (IntKind.i64.wrap (1 * 2 ^ min (Int.toNat 16) 64)))))) how)
                          true),
                      AVal.int IntKind.i64
                        (ftE (rtN (vl (dg (vl (dg x) * vl (dg (IntKind.i64.wrap (1 * 2 ^ min (Int.toNat 16) 64)))))) how)
                          true)]))
            else none
          else none
        else none := by kernel_rfl
--END
theorem ft_fx {n : Int} (h : 0 ≤ n) : ftV n true = fxV false n ∧ ftE n true = fxE n := by
  have : okB n = fxB n := by
    rw [Bool.eq_iff_iff, ok_iff]; simp only [fxB, decide_eq_true_eq]; omega
  unfold ftV ftE fxV fxE
  rw [this]
  exact ⟨rfl, rfl⟩
theorem rt_nn (s : Int) : 0 ≤ rt s := by rw [rt_C]; exact Int.natCast_nonneg _
theorem rtN_nn (s how : Int) : 0 ≤ rtN s how := by
  have := rt_nn s
  unfold rtN
  cases rtUp s how <;> simp only [cond_true, cond_false] <;> omega
--FIN rRoot | besom/besomref01.Root | (x how : Int) | .int .i64 x, .int .i64 how | i2 (rootV x how) (rootE x how)
theorem rRoot_fin (x how : Int) (hs : ∀ qSm ∈ ([.int .i64 x, .int .i64 how] : List AVal), Sm qSm) : ∃ N n, ∀ α (k : AOut → Option α), evFn real tab ((twY fnR3 spL).env real tab N n) N Tryz.f49 α [.int .i64 x, .int .i64 how] k = k (i2 (rootV x how) (rootE x how)) := by
  refine ⟨8, 8, fun α k => (rRoot_text 8 0 α x how k).trans ?_⟩
  unfold rootV rootE rootB
  cases ho : okB x
  · rfl
  cases hw : wayB how
  · rfl
  have two : IntKind.i64.wrap (1 * 2 ^ min (Int.toNat 16) 64) = 65536 := by decide
  rw [ok_iff] at ho
  by_cases hx : x < 0
  · rw [decide_eq_true hx, show ngB x = true from decide_eq_true hx]
    rfl
  · have e : vl (dg (vl (dg x) * vl (dg 65536))) = x * 65536 := by rw [vl_dg x (by omega), vl_dg 65536 (by omega), vl_dg _ (by omega)]
    have d : isD (dg (vl (dg x) * vl (dg 65536))) = true := by
      rw [vl_dg x (by omega), vl_dg 65536 (by omega)]; exact isD_dg ⟨by omega, by omega⟩
    have b : rrB (dg (vl (dg x) * vl (dg 65536))) = true := by
      unfold rrB
      rw [d, e, decide_eq_true (by omega)]; rfl
    obtain ⟨f1, f2⟩ := ft_fx (rtN_nn (x * 65536) how)
    rw [two, decide_eq_false hx, show ngB x = false from decide_eq_false hx, decide_eq_true (show 0 ≤ x by omega), decide_eq_true (show x ≤ 9223372036854775807 by omega), isD_dg (n := x) ⟨by omega, by omega⟩, isD_dg (n := 65536) ⟨by omega, by omega⟩, b, e, f1, f2]
    rfl
--CON rRoot
noncomputable def rRootS : Fsp := fun _ args k => match args with
  | [.int .i64 x, .int .i64 how] => k (i2 (rootV x how) (rootE x how))
  | _ => none
theorem rRootS_ok : FspOk Tryz.prog 49 rRootS := tower_Y fnR3_ok spL_ok ⟨Tryz.func49, fun _ _ => by kernel_rfl⟩ (by intro α args k; unfold rRootS; split <;> rfl) fun args out hSm hEq => by
  unfold rRootS at hEq
  split at hEq
  · rename_i x how
    obtain ⟨N, n, e⟩ := rRoot_fin x how hSm
    exact ⟨N, n, (e AOut some).trans hEq⟩
  · cases hEq
--END
--FS fnR4 | fnR3 | rRoot
noncomputable def fnR4 : FuncId → Option Fsp := fun g =>
  if g = 49 then some rRootS else
  fnR3 g
theorem fnR4_ok : FsOk fnR4 :=
  fs_cons rRootS_ok <|
  fnR3_ok
--END
end Go.Proofs.YtbcjhjidhhecaaaGreat

/- Ice: the weight of a way. -/
namespace Go.Proofs.YtbcjhjidhhecaaaGreat
open Go.RowKit

/-- What is reckoned for a way along the sheet, piece by piece: m pieces are still to come, q is the next border. -/
def wSum (prt : Int → Int → Int) (brd : Nat → Int) (yt : Int) : Nat → Nat → Int → Int
  | 0, _, Y => prt Y yt
  | m + 1, q, Y => if brd q < yt then prt Y (brd q) + wSum prt brd yt m (q + 1) (brd q) else prt Y yt
/-- A border. -/
def brdK (cy sd : Int) (k : Nat) : Int := cy + k * sd
/-- How many borders are not above a place. -/
def brdQ (cy sd h y : Int) : Nat := if y < cy then 0 else min (h.toNat + 1) (((y - cy) / sd).toNat + 1)
theorem brd_next (cy sd : Int) (k : Nat) : brdK cy sd (k + 1) = brdK cy sd k + sd := by
  unfold brdK
  rw [Int.natCast_add, Int.add_mul]; omega
theorem brdQ_is {cy sd h y : Int} (hs : 1 ≤ sd) : brdQ cy sd h y ≤ h.toNat + 1 ∧ (∀ k, k < brdQ cy sd h y → brdK cy sd k ≤ y) ∧ (brdQ cy sd h y ≤ h.toNat → y < brdK cy sd (brdQ cy sd h y)) := by
  unfold brdQ brdK
  split
  · exact ⟨by omega, fun k hk => by omega, fun _ => by simp; omega⟩
  · have a := Int.ediv_nonneg (show 0 ≤ y - cy by omega) (show 0 ≤ sd by omega)
    have e1 := Int.emod_add_mul_ediv (y - cy) sd
    have e2 := Int.emod_nonneg (y - cy) (show sd ≠ 0 by omega)
    have e3 := Int.emod_lt_of_pos (y - cy) (show 0 < sd by omega)
    rw [Int.mul_comm] at e1
    refine ⟨by omega, fun k hk => ?_, fun hq => ?_⟩
    · have : (k : Int) * sd ≤ (y - cy) / sd * sd := Int.mul_le_mul_of_nonneg_right (by omega) (by omega)
      omega
    · have hq' : min (h.toNat + 1) (((y - cy) / sd).toNat + 1) = ((y - cy) / sd).toNat + 1 := by omega
      rw [hq']
      have : ((((y - cy) / sd).toNat + 1 : Nat) : Int) = (y - cy) / sd + 1 := by omega
      rw [this, Int.add_mul]; omega
/-- Products rounded up. -/
theorem mp_up {b d : Int} (hb : 0 ≤ b ∧ b ≤ 65536) (hd : 0 ≤ d ∧ d ≤ 13107200000) : mpV b d 2 = rnd 2 false (b * d) 65536 ∧ 0 ≤ rnd 2 false (b * d) 65536 ∧ rnd 2 false (b * d) 65536 ≤ d := by
  have hm := mul_in hb hd
  have hm2 : b * d ≤ 65536 * d := Int.mul_le_mul_of_nonneg_right hb.2 hd.1
  have hn := rnd_nn (how := 2) (neg := false) hm.1 (show (0 : Int) < 65536 by omega)
  have hu : rnd 2 false (b * d) 65536 = b * d / 65536 + (bif decide (0 < b * d % 65536) then 1 else 0) := by
    unfold rnd up1
    simp
  have hle : rnd 2 false (b * d) 65536 ≤ d := by
    rw [hu]
    by_cases h : 0 < b * d % 65536
    · rw [decide_eq_true h, cond_true]; omega
    · rw [decide_eq_false h, cond_false]; omega
  have hx : xorB (ngB b) (ngB d) = false := by rw [ng_pos hb.1, ng_pos hd.1]; rfl
  have hP : prP b d 2 = rnd 2 false (b * d) 65536 := by
    unfold prP
    rw [hx, ab_pos hb.1, ab_pos hd.1]
    exact rndP_small hm.1 (by omega) (by omega)
  refine ⟨?_, hn, hle⟩
  unfold mpV
  rw [ok_iff.2 (show -70368744177664 ≤ b ∧ b ≤ 70368744177664 by omega), ok_iff.2 (show -70368744177664 ≤ d ∧ d ≤ 70368744177664 by omega), hP, hx]
  unfold fxV
  rw [show fxB (rnd 2 false (b * d) 65536) = true by simp only [fxB, decide_eq_true_eq]; omega]
  rfl

section
variable {α : Type}
def wInF (h yt Y sd : Int) : Int × Int × Int × Unit → Option (LRes (Int × Int × Int × Unit) α) := fun z =>
  bif decide (z.2.1 ≤ h) then
    bif decide (z.2.2.1 ≤ Y) then some (LRes.cont (z.1, IntKind.i64.wrap (z.2.1 + 1), IntKind.i64.wrap (z.2.2.1 + sd), ()))
    else bif decide (z.2.2.1 < yt) then some (LRes.brk 2 (z.2.2.1, z.2.1, z.2.2.1, ())) else some (LRes.brk 2 (z.1, z.2.1, z.2.2.1, ()))
  else some (LRes.brk 2 (z.1, z.2.1, z.2.2.1, ()))
def wOutF (N : Nat) (dom : Int → Int → Bool) (slw : Int → Int → Int) (h yt sd : Int) : Int × Int × Int × Int × Int × Unit → Option (LRes (Int × Int × Int × Int × Int × Unit) α) := fun x =>
  bif decide (x.2.2.2.2.1 < yt) then
    afterL (iterL N (wInF h yt x.2.2.2.2.1 sd) (yt, x.1, x.2.1, ())) fun id y =>
      if id = 2 then
        bif dom x.2.2.2.1 x.2.2.2.2.1 then
          bif y.1 == yt then some (LRes.brk 0 (y.2.1, y.2.2.1, IntKind.i64.wrap (x.2.2.1 + mpV (slw x.2.2.2.1 x.2.2.2.2.1) (IntKind.i64.wrap (y.1 - x.2.2.2.2.1)) 2), x.2.2.2.1, y.1, ()))
          else some (LRes.cont (y.2.1, y.2.2.1, IntKind.i64.wrap (x.2.2.1 + mpV (slw x.2.2.2.1 x.2.2.2.2.1) (IntKind.i64.wrap (y.1 - x.2.2.2.2.1)) 2), x.2.2.2.1, y.1, ()))
        else none
      else none
  else some (LRes.brk 0 (x.1, x.2.1, x.2.2.1, x.2.2.2.1, x.2.2.2.2.1, ()))
end
--AT fsI6 spL
set_option maxRecDepth 100000 in
theorem iweight_text (N n0 : Nat) (α : Type) (cx cy sd w h : Int) (pb po : List Int) (fl ke sw be we : Int) (x y yt : Int) (k : AOut → Option α) : evFn real tab ((twT fsI6 spL).env real tab N (n0 + 8)) N Tryz.f9 α [.agg [.int .i64 cx, .int .i64 cy, .int .i64 sd, .int .i64 w, .int .i64 h, .ro (.int .i64) pb, .ro (.int .i64) po], .agg [.int .i64 fl, .int .i64 ke, .int .i64 sw, .int .i64 be, .int .i64 we], .agg [.int .i64 x, .int .i64 y], .int .i64 yt] k =
    bif er2 (iceB cx cy sd w h pb po) == 0 then bif er2 (graB fl ke sw be we) == 0 then bif !!([(x, y, ())].any offS) then k (i2 0 2)
    else bif decide (yt ≤ y) then k (i2 0 2) else bif decide (yt > 6553600000) then k (i2 0 2)
    else afterL (iterL N (wOutF N (fun x Y => iceB cx cy sd w h pb po && graB fl ke sw be we && plcB x Y) (slwV cx cy sd w h pb po fl ke sw be we) h yt sd) (0, cy, 0, x, y, ())) fun id z => if id = 0 then k (i2 (rootV (IntKind.i64.wrap (2 * z.2.2.1)) 2) (rootE (IntKind.i64.wrap (2 * z.2.2.1)) 2)) else none
    else k (i2 0 2) else k (i2 0 2) := by kernel_rfl
/-- What is reckoned of a piece. -/
def prtV (cx cy sd w h : Int) (pb po : List Int) (fl ke sw be we : Int) (x Y N : Int) : Int := rnd 2 false (slwV cx cy sd w h pb po fl ke sw be we x Y * (N - Y)) 65536
theorem slwV_in (cx cy sd w h : Int) (pb po : List Int) (fl ke sw be we : Int) (x Y : Int) : 0 ≤ slwV cx cy sd w h pb po fl ke sw be we x Y ∧ slwV cx cy sd w h pb po fl ke sw be we x Y ≤ 65536 := by
  unfold slwV
  cases hb : iceB cx cy sd w h pb po && graB fl ke sw be we && plcB x Y
  · simp
  · simp only [Bool.and_eq_true] at hb
    have g := gra_is _ _ _ _ _ hb.1.2
    have i := ice_is _ _ _ _ _ _ _ hb.1.1
    have := brk_in g (hgt_in i.pg cx cy sd w h x Y) (hgt_in i.og cx cy sd w h x Y)
    have := g.fl
    simp only [cond_true]; omega
theorem w_inner {α : Type} {h yt Y sd cy : Int} (hs : 1 ≤ sd ∧ sd ≤ 6553600000) (hc : -6553600000 ≤ cy ∧ cy ≤ 6553600000) (hh : 1 ≤ h ∧ h ≤ 256) (r q : Nat) (hrq : r ≤ q) (hq : q ≤ h.toNat + 1) (h1 : ∀ k, k < q → brdK cy sd k ≤ Y) (h2 : q ≤ h.toNat → Y < brdK cy sd q) (K : Nat → Int × Int × Int × Unit → Option (LRes (Int × Int × Int × Int × Int × Unit) α)) {N : Nat} (hN : 300 < N) :
    afterL (iterL N (wInF h yt Y sd) (yt, (r : Int), brdK cy sd r, ())) K = K 2 (if q ≤ h.toNat ∧ brdK cy sd q < yt then brdK cy sd q else yt, (q : Int), brdK cy sd q, ()) := by
  have bd : ∀ k : Nat, k ≤ 257 → -6553600000 ≤ brdK cy sd k ∧ brdK cy sd k ≤ 1700000000000 := fun k hk => by
    have := mul_in (a := (k : Int)) (b := sd) (A := 257) (B := 6553600000) ⟨by omega, by omega⟩ ⟨by omega, by omega⟩
    unfold brdK; omega
  refine count_loop (f := wInF h yt Y sd) (fun i : Nat => (yt, ((r + i : Nat) : Int), brdK cy sd (r + i), ())) (q - r) (fun i hi => ?_) ?_ (by omega)
  · unfold wInF
    simp only
    have b := bd (r + i) (by omega)
    rw [decide_eq_true (show ((r + i : Nat) : Int) ≤ h by omega), decide_eq_true (h1 (r + i) (by omega)), i64_in (((r + i : Nat) : Int) + 1) (by omega), i64_in (brdK cy sd (r + i) + sd) (by omega), ← brd_next]
    rfl
  · unfold wInF
    simp only
    rw [show r + (q - r) = q by omega]
    by_cases hqh : q ≤ h.toNat
    · rw [decide_eq_true (show (q : Int) ≤ h by omega), decide_eq_false (show ¬ brdK cy sd q ≤ Y by have := h2 hqh; omega)]
      simp only [cond_true, cond_false]
      by_cases hb : brdK cy sd q < yt
      · rw [decide_eq_true hb, if_pos ⟨hqh, hb⟩]; rfl
      · rw [decide_eq_false hb, if_neg (fun e => hb e.2)]; rfl
    · rw [decide_eq_false (show ¬ (q : Int) ≤ h by omega), if_neg (fun e => hqh e.1)]; rfl
theorem w_outer {α : Type} (cx cy sd w h : Int) (pb po : List Int) (fl ke sw be we : Int) (x yt : Int) (hI : iceB cx cy sd w h pb po = true) (hG : graB fl ke sw be we = true) (hx : -6553600000 ≤ x ∧ x ≤ 6553600000) (hyt : yt ≤ 6553600000) {N : Nat} (hN : 300 < N) (y0 : Int) (hy0 : -6553600000 ≤ y0) :
    ∀ (m r q : Nat) (Y sum : Int), m + q = h.toNat + 1 → r ≤ q → (∀ k, k < q → brdK cy sd k ≤ Y) → (q ≤ h.toNat → Y < brdK cy sd q) → y0 ≤ Y → Y < yt → 0 ≤ sum → sum ≤ Y - y0 → ∀ M, m < M →
      ∃ a b, iterL (α := α) M (wOutF N (fun x Y => iceB cx cy sd w h pb po && graB fl ke sw be we && plcB x Y) (slwV cx cy sd w h pb po fl ke sw be we) h yt sd) ((r : Int), brdK cy sd r, sum, x, Y, ()) = some (.brk 0 (a, b, sum + wSum (prtV cx cy sd w h pb po fl ke sw be we x) (brdK cy sd) yt m q Y, x, yt, ())) := by
  have g := ice_is _ _ _ _ _ _ _ hI
  have gs := g.fs; have gc := g.fc; have gh := g.fh
  have hp : ∀ Y N', Y ≤ N' → -6553600000 ≤ Y → N' ≤ 6553600000 → mpV (slwV cx cy sd w h pb po fl ke sw be we x Y) (IntKind.i64.wrap (N' - Y)) 2 = prtV cx cy sd w h pb po fl ke sw be we x Y N' ∧ 0 ≤ prtV cx cy sd w h pb po fl ke sw be we x Y N' ∧ prtV cx cy sd w h pb po fl ke sw be we x Y N' ≤ N' - Y := fun Y N' h1 h2 h3 => by
    rw [i64_in (N' - Y) (by omega)]
    exact mp_up (slwV_in cx cy sd w h pb po fl ke sw be we x Y) ⟨by omega, by omega⟩
  intro m
  induction m with
  | zero =>
    intro r q Y sum hm hrq h1 h2 hY hYt hs0 hs1 M hM
    obtain ⟨M, rfl⟩ : ∃ M', M = M' + 1 := ⟨M - 1, by omega⟩
    have hd : plcB x Y = true := plc_iff.2 ⟨hx, by omega, by omega⟩
    obtain ⟨p1, p2, p3⟩ := hp Y yt (by omega) (by omega) (by omega)
    refine ⟨(q : Int), brdK cy sd q, ?_⟩
    have e : wOutF (α := α) N (fun x Y => iceB cx cy sd w h pb po && graB fl ke sw be we && plcB x Y) (slwV cx cy sd w h pb po fl ke sw be we) h yt sd ((r : Int), brdK cy sd r, sum, x, Y, ()) = some (.brk 0 ((q : Int), brdK cy sd q, sum + prtV cx cy sd w h pb po fl ke sw be we x Y yt, x, yt, ())) := by
      unfold wOutF
      simp only
      rw [decide_eq_true hYt, cond_true, w_inner gs gc.2 gh r q hrq (by omega) h1 h2 _ hN, if_pos rfl, hI, hG, hd]
      rw [if_neg (show ¬ (q ≤ h.toNat ∧ brdK cy sd q < yt) by omega)]
      simp only [Bool.and_self, cond_true, BEq.rfl]
      rw [p1, i64_in _ (by omega)]
    simp only [iterL, e]
    rfl
  | succ m ih =>
    intro r q Y sum hm hrq h1 h2 hY hYt hs0 hs1 M hM
    obtain ⟨M, rfl⟩ : ∃ M', M = M' + 1 := ⟨M - 1, by omega⟩
    have hd : plcB x Y = true := plc_iff.2 ⟨hx, by omega, by omega⟩
    have hqh : q ≤ h.toNat := by omega
    have hYq := h2 hqh
    by_cases hb : brdK cy sd q < yt
    · obtain ⟨p1, p2, p3⟩ := hp Y (brdK cy sd q) (by omega) (by omega) (by omega)
      have hnx := brd_next cy sd q
      obtain ⟨a, b, e2⟩ := ih q (q + 1) (brdK cy sd q) (sum + prtV cx cy sd w h pb po fl ke sw be we x Y (brdK cy sd q)) (by omega) (by omega) (fun k hk => by
        rcases Nat.lt_or_ge k q with h | h
        · have := h1 k h; omega
        · have : k = q := by omega
          subst this; omega) (fun _ => by omega) (by omega) hb (by omega) (by omega) M (by omega)
      refine ⟨a, b, ?_⟩
      have e : wOutF (α := α) N (fun x Y => iceB cx cy sd w h pb po && graB fl ke sw be we && plcB x Y) (slwV cx cy sd w h pb po fl ke sw be we) h yt sd ((r : Int), brdK cy sd r, sum, x, Y, ()) = some (.cont ((q : Int), brdK cy sd q, sum + prtV cx cy sd w h pb po fl ke sw be we x Y (brdK cy sd q), x, brdK cy sd q, ())) := by
        unfold wOutF
        simp only
        rw [decide_eq_true hYt, cond_true, w_inner gs gc.2 gh r q hrq (by omega) h1 h2 _ hN, if_pos rfl, hI, hG, hd]
        rw [if_pos ⟨hqh, hb⟩, show (brdK cy sd q == yt) = false by simp; omega]
        simp only [Bool.and_self, cond_true, cond_false]
        rw [p1, i64_in _ (by omega)]
      simp only [iterL, e]
      rw [e2]
      simp only [wSum, if_pos hb]
      rw [Int.add_assoc]
    · obtain ⟨p1, p2, p3⟩ := hp Y yt (by omega) (by omega) (by omega)
      refine ⟨(q : Int), brdK cy sd q, ?_⟩
      have e : wOutF (α := α) N (fun x Y => iceB cx cy sd w h pb po && graB fl ke sw be we && plcB x Y) (slwV cx cy sd w h pb po fl ke sw be we) h yt sd ((r : Int), brdK cy sd r, sum, x, Y, ()) = some (.brk 0 ((q : Int), brdK cy sd q, sum + prtV cx cy sd w h pb po fl ke sw be we x Y yt, x, yt, ())) := by
        unfold wOutF
        simp only
        rw [decide_eq_true hYt, cond_true, w_inner gs gc.2 gh r q hrq (by omega) h1 h2 _ hN, if_pos rfl, hI, hG, hd]
        rw [if_neg (fun e => hb e.2)]
        simp only [Bool.and_self, cond_true, BEq.rfl]
        rw [p1, i64_in _ (by omega)]
      simp only [iterL, e, wSum, if_neg hb]
def wgtB (cx cy sd w h : Int) (pb po : List Int) (fl ke sw be we : Int) (x y yt : Int) : Bool := (iceB cx cy sd w h pb po && graB fl ke sw be we && plcB x y) && (decide (y < yt) && decide (yt ≤ 6553600000))
/-- What is reckoned for the whole way. -/
def wgtS (cx cy sd w h : Int) (pb po : List Int) (fl ke sw be we : Int) (x y yt : Int) : Int := wSum (prtV cx cy sd w h pb po fl ke sw be we x) (brdK cy sd) yt (h.toNat + 1 - brdQ cy sd h y) (brdQ cy sd h y) y
noncomputable def wgtV (cx cy sd w h : Int) (pb po : List Int) (fl ke sw be we : Int) (x y yt : Int) : Int := bif wgtB cx cy sd w h pb po fl ke sw be we x y yt then rootV (2 * wgtS cx cy sd w h pb po fl ke sw be we x y yt) 2 else 0
noncomputable def wgtE (cx cy sd w h : Int) (pb po : List Int) (fl ke sw be we : Int) (x y yt : Int) : Int := bif wgtB cx cy sd w h pb po fl ke sw be we x y yt then rootE (2 * wgtS cx cy sd w h pb po fl ke sw be we x y yt) 2 else 2
theorem wgtS_in (cx cy sd w h : Int) (pb po : List Int) (fl ke sw be we : Int) (x y yt : Int) (hb : wgtB cx cy sd w h pb po fl ke sw be we x y yt = true) : 0 ≤ wgtS cx cy sd w h pb po fl ke sw be we x y yt ∧ wgtS cx cy sd w h pb po fl ke sw be we x y yt ≤ yt - y := by
  simp only [wgtB, Bool.and_eq_true, decide_eq_true_eq, plc_iff] at hb
  obtain ⟨⟨⟨hI, hG⟩, hp⟩, hy, hyt⟩ := hb
  have g := ice_is _ _ _ _ _ _ _ hI
  have gs := g.fs
  obtain ⟨q1, q2, q3⟩ := brdQ_is (cy := cy) (h := h) (y := y) gs.1
  unfold wgtS
  have nx : ∀ k, brdQ cy sd h y ≤ k → brdK cy sd k ≤ brdK cy sd (k + 1) := fun k _ => by rw [brd_next]; omega
  generalize brdQ cy sd h y = q at *
  have step : ∀ (m q : Nat) (Y : Int), -6553600000 ≤ Y → Y ≤ yt → (m = 0 ∨ Y ≤ brdK cy sd q) → (∀ k, q ≤ k → brdK cy sd k ≤ brdK cy sd (k + 1)) → 0 ≤ wSum (prtV cx cy sd w h pb po fl ke sw be we x) (brdK cy sd) yt m q Y ∧ wSum (prtV cx cy sd w h pb po fl ke sw be we x) (brdK cy sd) yt m q Y ≤ yt - Y := by
    have hp' : ∀ Y N', -6553600000 ≤ Y → Y ≤ N' → N' ≤ 6553600000 → 0 ≤ prtV cx cy sd w h pb po fl ke sw be we x Y N' ∧ prtV cx cy sd w h pb po fl ke sw be we x Y N' ≤ N' - Y := fun Y N' h0 h1 h3 => (mp_up (slwV_in cx cy sd w h pb po fl ke sw be we x Y) ⟨by omega, by omega⟩).2
    intro m
    induction m with
    | zero => intro q Y h0 h1 _ _; exact hp' Y yt h0 h1 hyt
    | succ m ih =>
      intro q Y h0 h1 h2 h3
      simp only [wSum]
      split
      · have a := hp' Y (brdK cy sd q) h0 (by omega) (by omega)
        have b := ih (q + 1) (brdK cy sd q) (by omega) (by omega) (.inr (h3 q (Nat.le_refl _))) (fun k h => h3 k (by omega))
        omega
      · exact hp' Y yt h0 h1 hyt
  exact step _ q y hp.2.1 (by omega) (by
    rcases Nat.lt_or_ge h.toNat q with h | h
    · left; omega
    · right; have := q3 h; omega) nx
--FIN iweight | besom/ice.Weight | $ICB $GB (x y yt : Int) | $ICE, $GR, $S{x y}, $I{yt} | i2 (wgtV $ICV $GV x y yt) (wgtE $ICV $GV x y yt)
theorem iweight_fin (cx cy sd w h : Int) (pb po : List Int) (fl ke sw be we : Int) (x y yt : Int) (hs : ∀ qSm ∈ ([.agg [.int .i64 cx, .int .i64 cy, .int .i64 sd, .int .i64 w, .int .i64 h, .ro (.int .i64) pb, .ro (.int .i64) po], .agg [.int .i64 fl, .int .i64 ke, .int .i64 sw, .int .i64 be, .int .i64 we], .agg [.int .i64 x, .int .i64 y], .int .i64 yt] : List AVal), Sm qSm) : ∃ N n, ∀ α (k : AOut → Option α), evFn real tab ((twT fsI6 spL).env real tab N n) N Tryz.f9 α [.agg [.int .i64 cx, .int .i64 cy, .int .i64 sd, .int .i64 w, .int .i64 h, .ro (.int .i64) pb, .ro (.int .i64) po], .agg [.int .i64 fl, .int .i64 ke, .int .i64 sw, .int .i64 be, .int .i64 we], .agg [.int .i64 x, .int .i64 y], .int .i64 yt] k = k (i2 (wgtV cx cy sd w h pb po fl ke sw be we x y yt) (wgtE cx cy sd w h pb po fl ke sw be we x y yt)) := by
  refine ⟨301, 8, fun α k => (iweight_text 301 0 α cx cy sd w h pb po fl ke sw be we x y yt k).trans ?_⟩
  rw [er2_0, er2_0, any_off, gt_le yt 6553600000]
  have hyy : decide (yt ≤ y) = !decide (y < yt) := by
    by_cases h' : y < yt
    · rw [decide_eq_true h', decide_eq_false (by omega)]; rfl
    · rw [decide_eq_false h', decide_eq_true (by omega)]; rfl
  rw [hyy]
  have hS := wgtS_in cx cy sd w h pb po fl ke sw be we x y yt
  unfold wgtV wgtE
  cases hb : wgtB cx cy sd w h pb po fl ke sw be we x y yt
  · have hb' := hb
    unfold wgtB at hb'
    revert hb'
    cases iceB cx cy sd w h pb po <;> cases graB fl ke sw be we <;> cases plcB x y <;> cases decide (y < yt) <;> cases decide (yt ≤ 6553600000) <;> intro hb' <;> first | rfl | cases hb'
  · have hs := hS hb
    have hb' := hb
    simp only [wgtB, Bool.and_eq_true, decide_eq_true_eq, plc_iff] at hb'
    obtain ⟨⟨⟨hI, hG⟩, hp⟩, hy, hyt⟩ := hb'
    have g := ice_is _ _ _ _ _ _ _ hI
    obtain ⟨q1, q2, q3⟩ := brdQ_is (cy := cy) (h := h) (y := y) g.fs.1
    have gh := g.fh
    obtain ⟨a, b, e⟩ := w_outer (α := α) cx cy sd w h pb po fl ke sw be we x yt hI hG hp.1 hyt (N := 301) (by omega) y hp.2.1 (h.toNat + 1 - brdQ cy sd h y) 0 (brdQ cy sd h y) y 0 (by omega) (by omega) q2 q3 (Int.le_refl _) hy (Int.le_refl _) (by omega) 301 (by omega)
    have e0 : brdK cy sd 0 = cy := by unfold brdK; simp
    rw [e0] at e
    rw [hI, hG, (plc_iff (x := x) (y := y)).2 hp, decide_eq_true hy, decide_eq_true hyt]
    simp only [Bool.not_true, Bool.not_false, cond_true, cond_false]
    have e' : iterL (α := α) 301 (wOutF 301 (fun x Y => true && true && plcB x Y) (slwV cx cy sd w h pb po fl ke sw be we) h yt sd) (0, cy, 0, x, y, ()) = some (.brk 0 (a, b, 0 + wgtS cx cy sd w h pb po fl ke sw be we x y yt, x, yt, ())) := by
      have := e
      rw [hI, hG] at this
      exact this
    rw [e']
    simp only [afterL, if_pos]
    rw [Int.zero_add, i64_in (2 * wgtS cx cy sd w h pb po fl ke sw be we x y yt) (by omega)]
--CON iweight
noncomputable def iweightS : Fsp := fun _ args k => match args with
  | [.agg [.int .i64 cx, .int .i64 cy, .int .i64 sd, .int .i64 w, .int .i64 h, .ro (.int .i64) pb, .ro (.int .i64) po], .agg [.int .i64 fl, .int .i64 ke, .int .i64 sw, .int .i64 be, .int .i64 we], .agg [.int .i64 x, .int .i64 y], .int .i64 yt] => k (i2 (wgtV cx cy sd w h pb po fl ke sw be we x y yt) (wgtE cx cy sd w h pb po fl ke sw be we x y yt))
  | _ => none
theorem iweightS_ok : FspOk Tryz.prog 9 iweightS := tower_S fsI6_ok spL_ok ⟨Tryz.func9, fun _ _ => by kernel_rfl⟩ (by intro α args k; unfold iweightS; split <;> rfl) fun args out hSm hEq => by
  unfold iweightS at hEq
  split at hEq
  · rename_i cx cy sd w h pb po fl ke sw be we x y yt
    obtain ⟨N, n, e⟩ := iweight_fin cx cy sd w h pb po fl ke sw be we x y yt hSm
    exact ⟨N, n, (e AOut some).trans hEq⟩
  · cases hEq
--END
end Go.Proofs.YtbcjhjidhhecaaaGreat

/- The reference's weight of a way. -/
namespace Go.Proofs.YtbcjhjidhhecaaaGreat
open Go.RowKit

--AT fnR4 spL twY
def rbkV (fl ke sw p q : Int) : Int := scV (IntKind.i64.wrap (fl + scV (IntKind.i64.wrap (ke - fl)) p 1000 3)) (IntKind.i64.wrap (1000000 - IntKind.i64.wrap (sw * q))) 1000000 3
set_option maxRecDepth 100000 in
theorem rbrake_text (N n0 : Nat) (α : Type) (fl ke sw be we : Int) (p q : Int) (k : AOut → Option α) : evFn real tab ((twY fnR4 spL).env real tab N (n0 + 8)) N Tryz.f48 α [.agg [.int .i64 fl, .int .i64 ke, .int .i64 sw, .int .i64 be, .int .i64 we], .int .i64 p, .int .i64 q] k = k (i1 (rbkV fl ke sw p q)) := by kernel_rfl
--FIN rbrake | besom/besomref03.brake | $GB (p q : Int) | $GR, $I{p}, $I{q} | i1 (rbkV fl ke sw p q)
theorem rbrake_fin (fl ke sw be we : Int) (p q : Int) (hs : ∀ qSm ∈ ([.agg [.int .i64 fl, .int .i64 ke, .int .i64 sw, .int .i64 be, .int .i64 we], .int .i64 p, .int .i64 q] : List AVal), Sm qSm) : ∃ N n, ∀ α (k : AOut → Option α), evFn real tab ((twY fnR4 spL).env real tab N n) N Tryz.f48 α [.agg [.int .i64 fl, .int .i64 ke, .int .i64 sw, .int .i64 be, .int .i64 we], .int .i64 p, .int .i64 q] k = k (i1 (rbkV fl ke sw p q)) := by
  exact ⟨8, 8, fun α k => rbrake_text 8 0 α fl ke sw be we p q k⟩
--CON rbrake
noncomputable def rbrakeS : Fsp := fun _ args k => match args with
  | [.agg [.int .i64 fl, .int .i64 ke, .int .i64 sw, .int .i64 be, .int .i64 we], .int .i64 p, .int .i64 q] => k (i1 (rbkV fl ke sw p q))
  | _ => none
theorem rbrakeS_ok : FspOk Tryz.prog 48 rbrakeS := tower_Y fnR4_ok spL_ok ⟨Tryz.func48, fun _ _ => by kernel_rfl⟩ (by intro α args k; unfold rbrakeS; split <;> rfl) fun args out hSm hEq => by
  unfold rbrakeS at hEq
  split at hEq
  · rename_i fl ke sw be we p q
    obtain ⟨N, n, e⟩ := rbrake_fin fl ke sw be we p q hSm
    exact ⟨N, n, (e AOut some).trans hEq⟩
  · cases hEq
--END
--FS fnR5 | fnR4 | rbrake
noncomputable def fnR5 : FuncId → Option Fsp := fun g =>
  if g = 48 then some rbrakeS else
  fnR4 g
theorem fnR5_ok : FsOk fnR5 :=
  fs_cons rbrakeS_ok <|
  fnR4_ok
--END
--AT fnR5 spL twY
section
variable {α : Type}
def rwIn (cy sd h Y : Int) (v : Int × Int × Unit) : Option (LRes (Int × Int × Unit) α) :=
  bif decide (v.2.1 ≤ h) then
    bif decide (IntKind.i64.wrap (cy + IntKind.i64.wrap (v.2.1 * sd)) > Y) then
      some (LRes.cont (if IntKind.i64.wrap (cy + IntKind.i64.wrap (v.2.1 * sd)) < v.1 then IntKind.i64.wrap (cy + IntKind.i64.wrap (v.2.1 * sd)) else v.1, IntKind.i64.wrap (v.2.1 + 1), ()))
    else some (LRes.cont (v.1, IntKind.i64.wrap (v.2.1 + 1), ()))
  else some (LRes.brk 2 (v.1, v.2.1, ()))
def rwC (fl ke sw S X Y nx p q : Int) : Option (LRes (Int × Int × Int × Unit) α) := some (LRes.cont (IntKind.i64.wrap (S + mulV (rbkV fl ke sw p q) (IntKind.i64.wrap (nx - Y)) 2), X, nx, ()))
def rwOut (N : Nat) (cx cy sd w h : Int) (pb po : List Int) (fl ke sw yt : Int) (z : Int × Int × Int × Unit) : Option (LRes (Int × Int × Int × Unit) α) :=
  bif decide (z.2.2.1 < yt) then
    afterL (iterL N (rwIn cy sd h z.2.2.1) (yt, 0, ())) fun id v => if id = 2 then rcText cx cy sd w h z.2.1 z.2.2.1 (rwC fl ke sw z.1 z.2.1 z.2.2.1 v.1 0 0) (rgK pb po (rwC fl ke sw z.1 z.2.1 z.2.2.1 v.1)) else none
  else some (LRes.brk 0 (z.1, z.2.1, z.2.2.1, ()))
end
set_option maxRecDepth 100000 in
theorem rweight_text (N n0 : Nat) (α : Type) (cx cy sd w h : Int) (pb po : List Int) (fl ke sw be we : Int) (x y yt : Int) (k : AOut → Option α) : evFn real tab ((twY fnR5 spL).env real tab N (n0 + 8)) N Tryz.f10 α [.agg [.int .i64 cx, .int .i64 cy, .int .i64 sd, .int .i64 w, .int .i64 h, .ro (.int .i64) pb, .ro (.int .i64) po], .agg [.int .i64 fl, .int .i64 ke, .int .i64 sw, .int .i64 be, .int .i64 we], .agg [.int .i64 x, .int .i64 y], .int .i64 yt] k =
    bif iceB cx cy sd w h pb po then bif !graB fl ke sw be we then k (i2 0 2) else bif !plcB x y then k (i2 0 2) else bif decide (yt ≤ y) then k (i2 0 2) else bif decide (yt > 6553600000) then k (i2 0 2)
    else afterL (iterL N (rwOut N cx cy sd w h pb po fl ke sw yt) (0, x, y, ())) fun id z => if id = 0 then k (i2 (rootV (IntKind.i64.wrap (2 * z.1)) 2) 0) else none
    else k (i2 0 2) := by kernel_rfl
theorem mul_up {b d : Int} (hb : 0 ≤ b ∧ b ≤ 65536) (hd : 0 ≤ d ∧ d ≤ 13107200000) : mulV b d 2 = rnd 2 false (b * d) 65536 := by
  obtain ⟨_, hn, hle⟩ := mp_up hb hd
  have hx : xorB (ngB b) (ngB d) = false := by rw [ng_pos hb.1, ng_pos hd.1]; rfl
  have hP : prN b d 2 = rnd 2 false (b * d) 65536 := by
    unfold prN
    rw [hx, ab_pos hb.1, ab_pos hd.1]
  unfold mulV mulB
  rw [ok_iff.2 (show -70368744177664 ≤ b ∧ b ≤ 70368744177664 by omega), ok_iff.2 (show -70368744177664 ≤ d ∧ d ≤ 70368744177664 by omega), hP, hx]
  unfold fxV
  rw [show fxB (rnd 2 false (b * d) 65536) = true by simp only [fxB, decide_eq_true_eq]; omega]
  rfl
theorem rw_inner {α : Type} {h yt Y sd cy : Int} (hs : 1 ≤ sd ∧ sd ≤ 6553600000) (hc : -6553600000 ≤ cy ∧ cy ≤ 6553600000) (hh : 1 ≤ h ∧ h ≤ 256) (q : Nat) (hq : q ≤ h.toNat + 1) (h1 : ∀ k, k < q → brdK cy sd k ≤ Y) (h2 : q ≤ h.toNat → Y < brdK cy sd q) (K : Nat → Int × Int × Unit → Option (LRes (Int × Int × Int × Unit) α)) {N : Nat} (hN : 300 < N) :
    afterL (iterL N (rwIn cy sd h Y) (yt, 0, ())) K = K 2 (if q ≤ h.toNat ∧ brdK cy sd q < yt then brdK cy sd q else yt, ((h.toNat + 1 : Nat) : Int), ()) := by
  have bd : ∀ k : Nat, k ≤ 257 → -6553600000 ≤ brdK cy sd k ∧ brdK cy sd k ≤ 1700000000000 ∧ (0 ≤ (k : Int) * sd ∧ (k : Int) * sd ≤ 1700000000000) := fun k hk => by
    have := mul_in (a := (k : Int)) (b := sd) (A := 257) (B := 6553600000) ⟨by omega, by omega⟩ ⟨by omega, by omega⟩
    unfold brdK; omega
  have up : ∀ k : Nat, q ≤ k → brdK cy sd q ≤ brdK cy sd k := fun k hk => by
    have : (q : Int) * sd ≤ (k : Int) * sd := Int.mul_le_mul_of_nonneg_right (by omega) (by omega)
    unfold brdK; omega
  have ev : ∀ k : Nat, k ≤ 257 → IntKind.i64.wrap (cy + IntKind.i64.wrap ((k : Int) * sd)) = brdK cy sd k := fun k hk => by
    have b := bd k hk
    rw [i64_in ((k : Int) * sd) (by omega)]
    exact i64_in _ (by unfold brdK at b; omega)
  have key := count_loop (f := rwIn cy sd h Y) (K := K) (fun i : Nat => (if q < i ∧ brdK cy sd q < yt then brdK cy sd q else yt, (i : Int), ())) (h.toNat + 1) (b := 2) (y := (if q < h.toNat + 1 ∧ brdK cy sd q < yt then brdK cy sd q else yt, ((h.toNat + 1 : Nat) : Int), ())) (fun i hi => ?_) ?_ (N := N) (by omega)
  · have e0 : (if q < 0 ∧ brdK cy sd q < yt then brdK cy sd q else yt) = yt := if_neg (fun e => by omega)
    rw [e0] at key
    have e1 : (if q < h.toNat + 1 ∧ brdK cy sd q < yt then brdK cy sd q else yt) = (if q ≤ h.toNat ∧ brdK cy sd q < yt then brdK cy sd q else yt) := by
      by_cases hc : q ≤ h.toNat ∧ brdK cy sd q < yt
      · rw [if_pos hc, if_pos ⟨by omega, hc.2⟩]
      · rw [if_neg hc, if_neg (fun e => hc ⟨by omega, e.2⟩)]
    rw [← e1]
    exact key
  · unfold rwIn
    simp only
    rw [decide_eq_true (show (i : Int) ≤ h by omega), ev i (by omega), i64_in ((i : Int) + 1) (by omega)]
    have b := bd i (by omega)
    by_cases hiq : i < q
    · have e1 : (if q < i ∧ brdK cy sd q < yt then brdK cy sd q else yt) = yt := if_neg (fun e => by omega)
      have e2 : (if q < i + 1 ∧ brdK cy sd q < yt then brdK cy sd q else yt) = yt := if_neg (fun e => by omega)
      rw [decide_eq_false (show ¬ brdK cy sd i > Y by have := h1 i hiq; omega), e1, e2]
      rfl
    · have u := up i (by omega)
      have hY : Y < brdK cy sd q := h2 (by omega)
      rw [decide_eq_true (show brdK cy sd i > Y by omega)]
      simp only [cond_true]
      by_cases hb : brdK cy sd q < yt
      · have e2 : (if q < i + 1 ∧ brdK cy sd q < yt then brdK cy sd q else yt) = brdK cy sd q := if_pos ⟨by omega, hb⟩
        rw [e2]
        by_cases hqi : q < i
        · have e1 : (if q < i ∧ brdK cy sd q < yt then brdK cy sd q else yt) = brdK cy sd q := if_pos ⟨hqi, hb⟩
          rw [e1, if_neg (by omega)]; rfl
        · have hq : i = q := by omega
          have e1 : (if q < i ∧ brdK cy sd q < yt then brdK cy sd q else yt) = yt := if_neg (fun e => hqi e.1)
          rw [e1, hq, if_pos hb]; rfl
      · have e1 : ∀ j, (if q < j ∧ brdK cy sd q < yt then brdK cy sd q else yt) = yt := fun j => if_neg (fun e => hb e.2)
        rw [e1, e1, if_neg (by omega)]; rfl
  · unfold rwIn
    simp only
    rw [decide_eq_false (show ¬ ((h.toNat + 1 : Nat) : Int) ≤ h by omega)]
    rfl
theorem rw_outer {α : Type} (cx cy sd w h : Int) (pb po : List Int) (fl ke sw be we : Int) (x yt : Int) (hI : iceB cx cy sd w h pb po = true) (hG : graB fl ke sw be we = true) (hx : -6553600000 ≤ x ∧ x ≤ 6553600000) (hyt : yt ≤ 6553600000) {N : Nat} (hN : 300 < N) (y0 : Int) (hy0 : -6553600000 ≤ y0) :
    ∀ (m q : Nat) (Y sum : Int), m + q = h.toNat + 1 → (∀ k, k < q → brdK cy sd k ≤ Y) → (q ≤ h.toNat → Y < brdK cy sd q) → y0 ≤ Y → Y < yt → 0 ≤ sum → sum ≤ Y - y0 → ∀ M, m + 1 < M →
      iterL (α := α) M (rwOut N cx cy sd w h pb po fl ke sw yt) (sum, x, Y, ()) = some (.brk 0 (sum + wSum (prtV cx cy sd w h pb po fl ke sw be we x) (brdK cy sd) yt m q Y, x, yt, ())) := by
  have g := ice_is _ _ _ _ _ _ _ hI
  have gs := g.fs; have gc := g.fc; have gh := g.fh
  have gg := gra_is _ _ _ _ _ hG
  -- a round
  have rd : ∀ (q : Nat) (Y sum : Int), q ≤ h.toNat + 1 → (∀ k, k < q → brdK cy sd k ≤ Y) → (q ≤ h.toNat → Y < brdK cy sd q) → y0 ≤ Y → Y < yt → 0 ≤ sum → sum ≤ Y - y0 → ∀ nx, (if q ≤ h.toNat ∧ brdK cy sd q < yt then brdK cy sd q else yt) = nx →
      rwOut (α := α) N cx cy sd w h pb po fl ke sw yt (sum, x, Y, ()) = some (.cont (sum + prtV cx cy sd w h pb po fl ke sw be we x Y nx, x, nx, ())) ∧ 0 ≤ prtV cx cy sd w h pb po fl ke sw be we x Y nx ∧ prtV cx cy sd w h pb po fl ke sw be we x Y nx ≤ nx - Y := fun q Y sum hq h1 h2 hY hYt hs0 hs1 nx hnx => by
    have hd : plcB x Y = true := plc_iff.2 ⟨hx, by omega, by omega⟩
    have hn : Y < nx ∧ nx ≤ yt := by
      rw [← hnx]
      split
      · rename_i c; exact ⟨h2 c.1, by omega⟩
      · exact ⟨hYt, Int.le_refl _⟩
    have hv : slwV cx cy sd w h pb po fl ke sw be we x Y = brkV fl ke sw (hgt pb cx cy sd w h x Y) (hgt po cx cy sd w h x Y) := by
      unfold slwV; rw [hI, hG, hd]; rfl
    have hb := slwV_in cx cy sd w h pb po fl ke sw be we x Y
    obtain ⟨_, p2, p3⟩ := mp_up hb (d := nx - Y) ⟨by omega, by omega⟩
    have e : mulV (rbkV fl ke sw (hgt pb cx cy sd w h x Y) (hgt po cx cy sd w h x Y)) (IntKind.i64.wrap (nx - Y)) 2 = prtV cx cy sd w h pb po fl ke sw be we x Y nx := by
      unfold rbkV
      rw [rslw_pl gg (hgt_in g.pg ..) (hgt_in g.og ..), ← hv, i64_in (nx - Y) (by omega), mul_up hb ⟨by omega, by omega⟩]
      rfl
    refine ⟨?_, p2, p3⟩
    unfold rwOut
    simp only
    rw [decide_eq_true hYt, cond_true, rw_inner gs gc.2 gh q hq h1 h2 _ hN, if_pos rfl, hnx, rgK_fin cx cy sd w h pb po x Y g hd (rwC fl ke sw sum x Y nx)]
    unfold rwC
    rw [e, i64_in _ (by show _ ∧ _; unfold prtV at *; omega)]
  have fin : ∀ sum, rwOut (α := α) N cx cy sd w h pb po fl ke sw yt (sum, x, yt, ()) = some (.brk 0 (sum, x, yt, ())) := fun sum => by
    unfold rwOut
    simp only
    rw [decide_eq_false (by omega)]
    rfl
  intro m
  induction m with
  | zero =>
    intro q Y sum hm h1 h2 hY hYt hs0 hs1 M hM
    obtain ⟨M, rfl⟩ : ∃ M', M = M' + 2 := ⟨M - 2, by omega⟩
    obtain ⟨e, _⟩ := rd q Y sum (by omega) h1 h2 hY hYt hs0 hs1 yt (if_neg (fun e => by omega))
    simp only [iterL, e, fin]
    rfl
  | succ m ih =>
    intro q Y sum hm h1 h2 hY hYt hs0 hs1 M hM
    by_cases hb : brdK cy sd q < yt
    · obtain ⟨M, rfl⟩ : ∃ M', M = M' + 1 := ⟨M - 1, by omega⟩
      obtain ⟨e, p2, p3⟩ := rd q Y sum (by omega) h1 h2 hY hYt hs0 hs1 (brdK cy sd q) (if_pos ⟨by omega, hb⟩)
      have hYq := h2 (by omega)
      have hnx := brd_next cy sd q
      have e2 := ih (q + 1) (brdK cy sd q) (sum + prtV cx cy sd w h pb po fl ke sw be we x Y (brdK cy sd q)) (by omega) (fun k hk => by
        rcases Nat.lt_or_ge k q with h | h
        · have := h1 k h; omega
        · have : k = q := by omega
          subst this; omega) (fun _ => by omega) (by omega) hb (by omega) (by omega) M (by omega)
      simp only [iterL, e]
      rw [e2]
      simp only [wSum, if_pos hb]
      rw [Int.add_assoc]
    · obtain ⟨M, rfl⟩ : ∃ M', M = M' + 2 := ⟨M - 2, by omega⟩
      obtain ⟨e, _⟩ := rd q Y sum (by omega) h1 h2 hY hYt hs0 hs1 yt (if_neg (fun e => hb e.2))
      simp only [iterL, e, fin, wSum, if_neg hb]
theorem wgt_root {S : Int} (h0 : 0 ≤ S) (h1 : S ≤ 13107200000) : rootE (2 * S) 2 = 0 := by
  obtain ⟨r0, r1, r2, r3⟩ := rt_spec (s := 2 * S * 65536) (by omega) (by omega)
  have hr : rt (2 * S * 65536) < 1073741824 := by
    rcases Int.lt_or_le (rt (2 * S * 65536)) 1073741824 with h | h
    · exact h
    · have : (1073741824 : Int) * 1073741824 ≤ rt (2 * S * 65536) * rt (2 * S * 65536) := Int.mul_le_mul h h (by omega) (by omega)
      omega
  have hN : rtN (2 * S * 65536) 2 ≤ 1073741824 := by
    unfold rtN
    cases rtUp (2 * S * 65536) 2 <;> simp only [cond_true, cond_false] <;> omega
  unfold rootE rootB
  rw [ok_iff.2 (show -70368744177664 ≤ 2 * S ∧ 2 * S ≤ 70368744177664 by omega), ng_pos (by omega)]
  unfold fxE
  rw [show fxB (rtN (2 * S * 65536) 2) = true by simp only [fxB, decide_eq_true_eq]; omega]
  rfl
--FIN rweight | besom/besomref03.Weight | $ICB $GB (x y yt : Int) | $ICE, $GR, $S{x y}, $I{yt} | i2 (wgtV $ICV $GV x y yt) (wgtE $ICV $GV x y yt)
theorem rweight_fin (cx cy sd w h : Int) (pb po : List Int) (fl ke sw be we : Int) (x y yt : Int) (hs : ∀ qSm ∈ ([.agg [.int .i64 cx, .int .i64 cy, .int .i64 sd, .int .i64 w, .int .i64 h, .ro (.int .i64) pb, .ro (.int .i64) po], .agg [.int .i64 fl, .int .i64 ke, .int .i64 sw, .int .i64 be, .int .i64 we], .agg [.int .i64 x, .int .i64 y], .int .i64 yt] : List AVal), Sm qSm) : ∃ N n, ∀ α (k : AOut → Option α), evFn real tab ((twY fnR5 spL).env real tab N n) N Tryz.f10 α [.agg [.int .i64 cx, .int .i64 cy, .int .i64 sd, .int .i64 w, .int .i64 h, .ro (.int .i64) pb, .ro (.int .i64) po], .agg [.int .i64 fl, .int .i64 ke, .int .i64 sw, .int .i64 be, .int .i64 we], .agg [.int .i64 x, .int .i64 y], .int .i64 yt] k = k (i2 (wgtV cx cy sd w h pb po fl ke sw be we x y yt) (wgtE cx cy sd w h pb po fl ke sw be we x y yt)) := by
  refine ⟨301, 8, fun α k => (rweight_text 301 0 α cx cy sd w h pb po fl ke sw be we x y yt k).trans ?_⟩
  rw [gt_le yt 6553600000]
  have hyy : decide (yt ≤ y) = !decide (y < yt) := by
    by_cases h' : y < yt
    · rw [decide_eq_true h', decide_eq_false (by omega)]; rfl
    · rw [decide_eq_false h', decide_eq_true (by omega)]; rfl
  rw [hyy]
  have hS := wgtS_in cx cy sd w h pb po fl ke sw be we x y yt
  unfold wgtV wgtE
  cases hb : wgtB cx cy sd w h pb po fl ke sw be we x y yt
  · have hb' := hb
    unfold wgtB at hb'
    revert hb'
    cases iceB cx cy sd w h pb po <;> cases graB fl ke sw be we <;> cases plcB x y <;> cases decide (y < yt) <;> cases decide (yt ≤ 6553600000) <;> intro hb' <;> first | rfl | cases hb'
  · have hs := hS hb
    have hb' := hb
    simp only [wgtB, Bool.and_eq_true, decide_eq_true_eq, plc_iff] at hb'
    obtain ⟨⟨⟨hI, hG⟩, hp⟩, hy, hyt⟩ := hb'
    have g := ice_is _ _ _ _ _ _ _ hI
    obtain ⟨q1, q2, q3⟩ := brdQ_is (cy := cy) (h := h) (y := y) g.fs.1
    have gh := g.fh
    have e := rw_outer (α := α) cx cy sd w h pb po fl ke sw be we x yt hI hG hp.1 hyt (N := 301) (by omega) y hp.2.1 (h.toNat + 1 - brdQ cy sd h y) (brdQ cy sd h y) y 0 (by omega) q2 q3 (Int.le_refl _) hy (Int.le_refl _) (by omega) 301 (by omega)
    rw [hI, hG, (plc_iff (x := x) (y := y)).2 hp, decide_eq_true hy, decide_eq_true hyt]
    simp only [Bool.not_true, Bool.not_false, cond_true, cond_false]
    rw [e]
    simp only [afterL, if_pos]
    show k (i2 (rootV (IntKind.i64.wrap (2 * (0 + wgtS cx cy sd w h pb po fl ke sw be we x y yt))) 2) 0) = _
    rw [Int.zero_add, i64_in (2 * wgtS cx cy sd w h pb po fl ke sw be we x y yt) (by omega), wgt_root (S := wgtS cx cy sd w h pb po fl ke sw be we x y yt) hs.1 (by omega)]
--CON rweight
noncomputable def rweightS : Fsp := fun _ args k => match args with
  | [.agg [.int .i64 cx, .int .i64 cy, .int .i64 sd, .int .i64 w, .int .i64 h, .ro (.int .i64) pb, .ro (.int .i64) po], .agg [.int .i64 fl, .int .i64 ke, .int .i64 sw, .int .i64 be, .int .i64 we], .agg [.int .i64 x, .int .i64 y], .int .i64 yt] => k (i2 (wgtV cx cy sd w h pb po fl ke sw be we x y yt) (wgtE cx cy sd w h pb po fl ke sw be we x y yt))
  | _ => none
theorem rweightS_ok : FspOk Tryz.prog 10 rweightS := tower_Y fnR5_ok spL_ok ⟨Tryz.func10, fun _ _ => by kernel_rfl⟩ (by intro α args k; unfold rweightS; split <;> rfl) fun args out hSm hEq => by
  unfold rweightS at hEq
  split at hEq
  · rename_i cx cy sd w h pb po fl ke sw be we x y yt
    obtain ⟨N, n, e⟩ := rweight_fin cx cy sd w h pb po fl ke sw be we x y yt hSm
    exact ⟨N, n, (e AOut some).trans hEq⟩
  · cases hEq
--END
--FS fnR6 | fnR5 | rweight
noncomputable def fnR6 : FuncId → Option Fsp := fun g =>
  if g = 10 then some rweightS else
  fnR5 g
theorem fnR6_ok : FsOk fnR6 :=
  fs_cons rweightS_ok <|
  fnR5_ok
--END
end Go.Proofs.YtbcjhjidhhecaaaGreat

/- IceWeights: it answers true. -/
namespace Go.Proofs.YtbcjhjidhhecaaaGreat
open Go.RowKit

--FS fsIw | fsIb | rweight=besom/besomref03.Weight;iweight=besom/ice.Weight
noncomputable def fsIw : FuncId → Option Fsp := fun g =>
  if g = 10 then some rweightS else
  if g = 9 then some iweightS else
  fsIb g
theorem fsIw_ok : FsOk fsIw :=
  fs_cons rweightS_ok <|
  fs_cons iweightS_ok <|
  fsIb_ok
--END
--AT fsIw spL twY
--TEXT iweights | twY fsIw spL | 8 | besom/besomlaw03.IceWeights | $ICB $GB (x y yt : Int) | $ICE, $GR, $S{x y}, .int .i64 yt
--KEY 6bcd890c2e
set_option maxRecDepth 100000 in
theorem iweights_text (N n0 : Nat) (α : Type) (cx cy sd w h : Int) (pb po : List Int) (fl ke sw be we : Int) (x y yt : Int) (k : AOut → Option α) : evFn real tab ((twY fsIw spL).env real tab N (n0 + 8)) N Tryz.f3 α [.agg [.int .i64 cx, .int .i64 cy, .int .i64 sd, .int .i64 w, .int .i64 h, .ro (.int .i64) pb, .ro (.int .i64) po], .agg [.int .i64 fl, .int .i64 ke, .int .i64 sw, .int .i64 be, .int .i64 we], .agg [.int .i64 x, .int .i64 y], .int .i64 yt] k =
  bif decide ((↑pb.length : Int) > 1000) then k (AOut.ret (AVal.bool true))
  else
    bif decide ((↑po.length : Int) > 1000) then k (AOut.ret (AVal.bool true))
    else
      bif wgtV cx cy sd w h pb po fl ke sw be we x y yt == wgtV cx cy sd w h pb po fl ke sw be we x y yt then
        bif wgtE cx cy sd w h pb po fl ke sw be we x y yt == wgtE cx cy sd w h pb po fl ke sw be we x y yt then
          k (AOut.ret (AVal.bool true))
        else k (AOut.ret (AVal.bool false))
      else k (AOut.ret (AVal.bool false)) := by kernel_rfl
--END
--FIN iweights | besom/besomlaw03.IceWeights | $ICB $GB (x y yt : Int) | $ICE, $GR, $S{x y}, $I{yt} | b1 true
theorem iweights_fin (cx cy sd w h : Int) (pb po : List Int) (fl ke sw be we : Int) (x y yt : Int) (hs : ∀ qSm ∈ ([.agg [.int .i64 cx, .int .i64 cy, .int .i64 sd, .int .i64 w, .int .i64 h, .ro (.int .i64) pb, .ro (.int .i64) po], .agg [.int .i64 fl, .int .i64 ke, .int .i64 sw, .int .i64 be, .int .i64 we], .agg [.int .i64 x, .int .i64 y], .int .i64 yt] : List AVal), Sm qSm) : ∃ N n, ∀ α (k : AOut → Option α), evFn real tab ((twY fsIw spL).env real tab N n) N Tryz.f3 α [.agg [.int .i64 cx, .int .i64 cy, .int .i64 sd, .int .i64 w, .int .i64 h, .ro (.int .i64) pb, .ro (.int .i64) po], .agg [.int .i64 fl, .int .i64 ke, .int .i64 sw, .int .i64 be, .int .i64 we], .agg [.int .i64 x, .int .i64 y], .int .i64 yt] k = k (b1 true) := by
  refine ⟨8, 8, fun α k => (iweights_text 8 0 α cx cy sd w h pb po fl ke sw be we x y yt k).trans ?_⟩
  cases decide ((pb.length : Int) > 1000) <;> cases decide ((po.length : Int) > 1000) <;> simp [b1]
--CON iweights
noncomputable def iweightsS : Fsp := fun _ args k => match args with
  | [.agg [.int .i64 cx, .int .i64 cy, .int .i64 sd, .int .i64 w, .int .i64 h, .ro (.int .i64) pb, .ro (.int .i64) po], .agg [.int .i64 fl, .int .i64 ke, .int .i64 sw, .int .i64 be, .int .i64 we], .agg [.int .i64 x, .int .i64 y], .int .i64 yt] => k (b1 true)
  | _ => none
theorem iweightsS_ok : FspOk Tryz.prog 3 iweightsS := tower_Y fsIw_ok spL_ok ⟨Tryz.func3, fun _ _ => by kernel_rfl⟩ (by intro α args k; unfold iweightsS; split <;> rfl) fun args out hSm hEq => by
  unfold iweightsS at hEq
  split at hEq
  · rename_i cx cy sd w h pb po fl ke sw be we x y yt
    obtain ⟨N, n, e⟩ := iweights_fin cx cy sd w h pb po fl ke sw be we x y yt hSm
    exact ⟨N, n, (e AOut some).trans hEq⟩
  · cases hEq
--END
def iweightsF : List AVal → Option AOut
  | [.agg [.int .i64 cx, .int .i64 cy, .int .i64 sd, .int .i64 w, .int .i64 h, .ro (.int .i64) pb, .ro (.int .i64) po], .agg [.int .i64 fl, .int .i64 ke, .int .i64 sw, .int .i64 be, .int .i64 we], .agg [.int .i64 x, .int .i64 y], .int .i64 yt] => some (b1 true)
  | _ => none
theorem iweightsF_ok : FspOk Tryz.prog 3 (toFsp iweightsF) := tower_Y fsIw_ok spL_ok ⟨Tryz.func3, fun _ _ => by kernel_rfl⟩ (toFsp_nat _) fun args out hSm hq => by
  replace hq := toFsp_some hq
  unfold iweightsF at hq
  split at hq
  · rename_i cx cy sd w h pb po fl ke sw be we x y yt
    cases hq
    obtain ⟨N, n, e⟩ := iweights_fin cx cy sd w h pb po fl ke sw be we x y yt hSm
    exact ⟨N, n, e AOut some⟩
  · cases hq
end Go.Proofs.YtbcjhjidhhecaaaGreat
