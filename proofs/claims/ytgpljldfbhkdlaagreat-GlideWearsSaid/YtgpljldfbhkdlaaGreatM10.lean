/- Parts of the proof, in build order. -/
import Derived.Test.YtgpljldfbhkdlaaGreatM9
namespace Go.Proofs.YtgpljldfbhkdlaaGreat
open Go.RowKit
set_option maxRecDepth 100000 in
theorem band_text (N n0 : Nat) (α : Type) (co sd many a b : Int) (k : AOut → Option α) : evFn real tab ((twT fsI7 spL).env real tab N (n0 + 8)) N Tryz.f172 α [.int .i64 co, .int .i64 sd, .int .i64 many, .int .i64 a, .int .i64 b] k =
 bif decide (IntKind.i64.wrap ((if a < b then b else a) - co) < 0) then k (AOut.ret (AVal.tup [AVal.int IntKind.i64 0, AVal.int IntKind.i64 (-1)])) else bif decide (IntKind.i64.wrap
 ((if b < a then b else a) - co) > IntKind.i64.wrap (many * sd)) then k (AOut.ret (AVal.tup [AVal.int IntKind.i64 0, AVal.int IntKind.i64 (-1)])) else if sd = 0 then none else if sd
 = 0 then none else k (AOut.ret (AVal.tup [AVal.int IntKind.i64 (if 0 < IntKind.i64.wrap (IntKind.i64.wrap ((IntKind.i64.wrap ((if b < a then b else a) - co)).tdiv sd) - 1) then
 IntKind.i64.wrap (IntKind.i64.wrap ((IntKind.i64.wrap ((if b < a then b else a) - co)).tdiv sd) - 1) else 0), AVal.int IntKind.i64 (if IntKind.i64.wrap ((IntKind.i64.wrap ((if a < b
 then b else a) - co)).tdiv sd) < IntKind.i64.wrap (many - 1) then IntKind.i64.wrap ((IntKind.i64.wrap ((if a < b then b else a) - co)).tdiv sd) else IntKind.i64.wrap (many - 1))]))
 := by kernel_rfl
def bdO (co sd many a b : Int) : Bool := decide (mx a b - co < 0) || decide (mn a b - co > many * sd)
def bdF (co sd many a b : Int) : Int := bif bdO co sd many a b then 0 else (if 0 < (mn a b - co).tdiv sd - 1 then (mn a b - co).tdiv sd - 1 else 0)
def bdT (co sd many a b : Int) : Int := bif bdO co sd many a b then -1 else (if (mx a b - co).tdiv sd < many - 1 then (mx a b - co).tdiv sd else many - 1)
def bdB (co sd many a b : Int) : Bool := (decide (-6553600000 ≤ co) && decide (co ≤ 6553600000)) && (decide (1 ≤ sd) && decide (sd ≤ 6553600000)) && (decide (1 ≤ many) && decide (many ≤ 256)) && (decide (-6553600000 ≤ a) && decide (a ≤ 6553600000)) && (decide (-6553600000 ≤ b) && decide (b ≤ 6553600000))
theorem mx_in {a b B : Int} (ha : -B ≤ a ∧ a ≤ B) (hb : -B ≤ b ∧ b ≤ B) : (-B ≤ mx a b ∧ mx a b ≤ B) ∧ -B ≤ mn a b ∧ mn a b ≤ B := by
  unfold mx mn
  constructor <;> split <;> omega
theorem tdiv_in {a sd B : Int} (ha : -B ≤ a ∧ a ≤ B) (hs : 1 ≤ sd) : -B ≤ a.tdiv sd ∧ a.tdiv sd ≤ B := by
  rcases Int.le_total 0 a with h | h
  · rw [Int.tdiv_eq_ediv_of_nonneg h]
    have a1 := Int.ediv_nonneg h (show 0 ≤ sd by omega)
    have a2 : a / sd ≤ a := Int.ediv_le_self sd h
    omega
  · have e : a.tdiv sd = -((-a) / sd) := by
      rw [← Int.tdiv_eq_ediv_of_nonneg (show 0 ≤ -a by omega), Int.neg_tdiv, Int.neg_neg]
    have a1 := Int.ediv_nonneg (show 0 ≤ -a by omega) (show 0 ≤ sd by omega)
    have a2 : (-a) / sd ≤ -a := Int.ediv_le_self sd (by omega)
    omega
theorem band_fin (co sd many a b : Int) (hs : ∀ qSm ∈ ([.int .i64 co, .int .i64 sd, .int .i64 many, .int .i64 a, .int .i64 b] : List AVal), Sm qSm) (hCo : (bdB co sd many a b) = true) : ∃ N n, ∀ α (k : AOut → Option α), evFn real tab ((twT fsI7 spL).env real tab N n) N Tryz.f172 α [.int .i64 co, .int .i64 sd, .int .i64 many, .int .i64 a, .int .i64 b] k = k (.ret (.tup [.int .i64 (bdF co sd many a b), .int .i64 (bdT co sd many a b)])) := by
  simp only [bdB, Bool.and_eq_true, decide_eq_true_eq] at hCo
  obtain ⟨⟨⟨⟨h1, h2⟩, h3⟩, h4⟩, h5⟩ := hCo
  refine ⟨8, 8, fun α k => (band_text 8 0 α co sd many a b k).trans ?_⟩
  obtain ⟨m1, m2⟩ := mx_in h4 h5
  have mm := mul_in (a := many) (b := sd) (A := 256) (B := 6553600000) ⟨by omega, by omega⟩ ⟨by omega, by omega⟩
  show (bif decide (IntKind.i64.wrap (mx a b - co) < 0) then k _ else bif decide (IntKind.i64.wrap (mn a b - co) > IntKind.i64.wrap (many * sd)) then k _ else if sd = 0 then none else if sd = 0 then none else k (.ret (.tup [.int .i64 (if 0 < IntKind.i64.wrap (IntKind.i64.wrap ((IntKind.i64.wrap (mn a b - co)).tdiv sd) - 1) then IntKind.i64.wrap (IntKind.i64.wrap ((IntKind.i64.wrap (mn a b - co)).tdiv sd) - 1) else 0), .int .i64 (if IntKind.i64.wrap ((IntKind.i64.wrap (mx a b - co)).tdiv sd) < IntKind.i64.wrap (many - 1) then IntKind.i64.wrap ((IntKind.i64.wrap (mx a b - co)).tdiv sd) else IntKind.i64.wrap (many - 1))]))) = _
  have q1 := tdiv_in (a := mn a b - co) (B := 13107200000) ⟨by omega, by omega⟩ h2.1
  have q2 := tdiv_in (a := mx a b - co) (B := 13107200000) ⟨by omega, by omega⟩ h2.1
  rw [i64_in (mx a b - co) (by omega), i64_in (mn a b - co) (by omega), i64_in (many * sd) (by omega), i64_in ((mn a b - co).tdiv sd) (by omega), i64_in ((mx a b - co).tdiv sd) (by omega), i64_in ((mn a b - co).tdiv sd - 1) (by omega), i64_in (many - 1) (by omega), if_neg (by omega), if_neg (by omega)]
  unfold bdF bdT bdO
  cases decide (mx a b - co < 0)
  · cases decide (mn a b - co > many * sd) <;> rfl
  · rfl
noncomputable def bandS : Fsp := fun _ args k => match args with
  | [.int .i64 co, .int .i64 sd, .int .i64 many, .int .i64 a, .int .i64 b] => bif bdB co sd many a b then k (.ret (.tup [.int .i64 (bdF co sd many a b), .int .i64 (bdT co sd many a b)])) else none
  | _ => none
theorem bandS_ok : FspOk Tryz.prog 172 bandS := tower_S fsI7_ok spL_ok ⟨Tryz.func172, fun _ _ => by kernel_rfl⟩ (by intro α args k; unfold bandS; split <;> simp only [cond_bind, Option.bind_some, Option.bind_none]) fun args out hSm hEq => by
  unfold bandS at hEq
  split at hEq
  · rename_i co sd many a b
    cases hc : bdB co sd many a b
    · rw [hc] at hEq; cases hEq
    · rw [hc] at hEq
      obtain ⟨N, n, e⟩ := band_fin co sd many a b hSm hc
      exact ⟨N, n, (e AOut some).trans hEq⟩
  · cases hEq
noncomputable def fsI8 : FuncId → Option Fsp := fun g =>
  if g = 172 then some bandS else
  fsI7 g
theorem fsI8_ok : FsOk fsI8 :=
  fs_cons bandS_ok <|
  fsI7_ok
/-! The cells that a way touches, in their order. -/
theorem bd_in {co sd many a b : Int} (hb : bdB co sd many a b = true) : 0 ≤ bdF co sd many a b ∧ bdF co sd many a b ≤ bdT co sd many a b + 1 ∧ bdT co sd many a b < many := by
  simp only [bdB, Bool.and_eq_true, decide_eq_true_eq] at hb
  obtain ⟨⟨⟨⟨h1, h2⟩, h3⟩, h4⟩, h5⟩ := hb
  unfold bdF bdT
  cases ho : bdO co sd many a b
  · unfold bdO at ho
    simp only [Bool.or_eq_false_iff, decide_eq_false_iff_not] at ho
    have hmm : mn a b ≤ mx a b := by unfold mn mx; split <;> split <;> omega
    simp only [cond_false]
    have t1 : (mx a b - co).tdiv sd = (mx a b - co) / sd := Int.tdiv_eq_ediv_of_nonneg (by omega)
    have t2 := Int.ediv_nonneg (show 0 ≤ mx a b - co by omega) (show 0 ≤ sd by omega)
    have t3 : (mn a b - co).tdiv sd ≤ (mx a b - co) / sd ∧ (mn a b - co).tdiv sd ≤ many := by
      rcases Int.le_total 0 (mn a b - co) with h | h
      · rw [Int.tdiv_eq_ediv_of_nonneg h]
        exact ⟨Int.ediv_le_ediv (by omega) (by omega), Int.ediv_le_of_le_mul (by omega) (by omega)⟩
      · have e : (mn a b - co).tdiv sd = -((-(mn a b - co)) / sd) := by
          rw [← Int.tdiv_eq_ediv_of_nonneg (show 0 ≤ -(mn a b - co) by omega), Int.neg_tdiv, Int.neg_neg]
        have := Int.ediv_nonneg (show 0 ≤ -(mn a b - co) by omega) (show 0 ≤ sd by omega)
        omega
    rw [t1]
    generalize (mx a b - co) / sd = A at *
    generalize (mn a b - co).tdiv sd = B at *
    refine ⟨?_, ?_, ?_⟩
    · split <;> omega
    · split <;> split <;> omega
    · split <;> omega
  · simp only [cond_true]
    omega
theorem bd_hit {co sd many a b p : Int} (hs : 1 ≤ sd) (h0 : 0 ≤ p) (h1 : p < many) (l1 : co + p * sd ≤ mx a b) (l2 : mn a b ≤ co + p * sd + sd) : bdF co sd many a b ≤ p ∧ p ≤ bdT co sd many a b := by
  have e0 : 0 ≤ p * sd := Int.mul_nonneg h0 (by omega)
  have e1 : (p + 1) * sd ≤ many * sd := Int.mul_le_mul_of_nonneg_right (by omega) (by omega)
  rw [Int.add_mul, Int.one_mul] at e1
  unfold bdF bdT
  have ho : bdO co sd many a b = false := by
    unfold bdO
    rw [decide_eq_false (by omega), decide_eq_false (by omega)]; rfl
  rw [ho]
  simp only [cond_false]
  have t1 : (mx a b - co).tdiv sd = (mx a b - co) / sd := Int.tdiv_eq_ediv_of_nonneg (by omega)
  have t2 : p ≤ (mx a b - co) / sd := Int.le_ediv_of_mul_le (by omega) (by omega)
  have t3 : (mn a b - co).tdiv sd ≤ p + 1 := by
    rcases Int.le_total 0 (mn a b - co) with h | h
    · rw [Int.tdiv_eq_ediv_of_nonneg h]
      refine Int.ediv_le_of_le_mul (by omega) ?_
      rw [Int.add_mul, Int.one_mul]; omega
    · have e : (mn a b - co).tdiv sd = -((-(mn a b - co)) / sd) := by
        rw [← Int.tdiv_eq_ediv_of_nonneg (show 0 ≤ -(mn a b - co) by omega), Int.neg_tdiv, Int.neg_neg]
      have := Int.ediv_nonneg (show 0 ≤ -(mn a b - co) by omega) (show 0 ≤ sd by omega)
      omega
  rw [t1]
  constructor
  · split <;> omega
  · split <;> omega
section
variable {τ α : Type}
def foldC (hit : Nat → Bool) (upd : Nat → τ → τ) (t0 : τ) : Nat → τ
  | 0 => t0
  | n + 1 => bif hit n then upd n (foldC hit upd t0 n) else foldC hit upd t0 n
theorem foldC_skip (hit : Nat → Bool) (upd : Nat → τ → τ) (t0 : τ) (a : Nat) : ∀ n, (∀ i, a ≤ i → i < a + n → hit i = false) → foldC hit upd t0 (a + n) = foldC hit upd t0 a
  | 0, _ => rfl
  | n + 1, h => by
    show foldC hit upd t0 ((a + n) + 1) = _
    simp only [foldC]
    rw [h (a + n) (by omega) (by omega)]
    exact foldC_skip hit upd t0 a n fun i h1 h2 => h i h1 (by omega)
def touL (N : Nat) (bf bt cf ct w : Int) (dom hit : Int → Bool) (body : (β : Type) → Int → τ → (τ → Option β) → Option β) (t0 : τ) (K : τ → Option α) : Option α :=
  afterL
    (iterL N
      (fun z : Int × τ =>
        bif decide (z.1 ≤ bt) then
          afterL
            (iterL N
              (fun v : Int × τ =>
                bif decide (v.1 ≤ ct) then
                  bif dom (IntKind.i64.wrap (IntKind.i64.wrap (z.1 * w) + v.1)) then
                    bif hit (IntKind.i64.wrap (IntKind.i64.wrap (z.1 * w) + v.1)) then
                      body _ (IntKind.i64.wrap (IntKind.i64.wrap (z.1 * w) + v.1)) v.2 fun t => some (LRes.cont (IntKind.i64.wrap (v.1 + 1), t))
                    else some (LRes.cont (IntKind.i64.wrap (v.1 + 1), v.2))
                  else none
                else some (LRes.brk 2 (v.1, v.2)))
              (cf, z.2))
            fun id y => if id = 2 then some (LRes.cont (IntKind.i64.wrap (z.1 + 1), y.2)) else none
        else some (LRes.brk 0 (z.1, z.2)))
      (bf, t0))
    fun id y => if id = 0 then K y.2 else none
theorem touL_eq (W H : Nat) (hW : 1 ≤ W ∧ W ≤ 256) (hH : 1 ≤ H ∧ H ≤ 256) {bf bt cf ct : Int} (b0 : 0 ≤ bf) (b1 : bf ≤ bt + 1) (b2 : bt < H) (c0 : 0 ≤ cf) (c1 : cf ≤ ct + 1) (c2 : ct < W) {dom hit : Int → Bool}
    (hd : ∀ n : Nat, n < W * H → dom n = true) (hh : ∀ n : Nat, n < W * H → hit n = true → (cf ≤ ((n % W : Nat) : Int) ∧ ((n % W : Nat) : Int) ≤ ct) ∧ bf ≤ ((n / W : Nat) : Int) ∧ ((n / W : Nat) : Int) ≤ bt)
    (body : (β : Type) → Int → τ → (τ → Option β) → Option β) (upd : Nat → τ → τ) (t0 : τ)
    (hb : ∀ (β : Type) (n : Nat) (k : τ → Option β), n < W * H → hit n = true → body β n (foldC (fun n => hit n) upd t0 n) k = k (upd n (foldC (fun n => hit n) upd t0 n))) (K : τ → Option α) {N : Nat} (hN : 300 < N) :
    touL N bf bt cf ct W dom hit body t0 K = K (foldC (fun n => hit n) upd t0 (W * H)) := by
  let F := foldC (fun n : Nat => hit n) upd t0
  have hF1 : ∀ n : Nat, F (n + 1) = bif hit n then upd n (F n) else F n := fun n => rfl
  have skip : ∀ a b : Nat, a ≤ b → b ≤ W * H → (∀ i, a ≤ i → i < b → hit i = false) → F b = F a := fun a b hab _ h => by
    have := foldC_skip (fun n : Nat => hit n) upd t0 a (b - a) fun i h1 h2 => h i h1 (by omega)
    rwa [show a + (b - a) = b by omega] at this
  obtain ⟨B, rfl⟩ := Int.eq_ofNat_of_zero_le b0
  obtain ⟨C, rfl⟩ := Int.eq_ofNat_of_zero_le c0
  obtain ⟨D, hD⟩ := Int.eq_ofNat_of_zero_le (show 0 ≤ bt + 1 by omega)
  obtain ⟨E, hE⟩ := Int.eq_ofNat_of_zero_le (show 0 ≤ ct + 1 by omega)
  have nohit : ∀ n : Nat, n < W * H → (n % W < C ∨ E ≤ n % W ∨ n / W < B ∨ D ≤ n / W) → hit n = false := fun n hn h => by
    cases hq : hit n
    · rfl
    · have := hh n hn hq; omega
  have hWH : W * H ≤ 65536 := by
    have := Nat.mul_le_mul hW.2 hH.2; omega
  have row : ∀ y : Nat, y < H → (y + 1) * W ≤ W * H := fun y hy => by
    rw [Nat.mul_comm W H]; exact Nat.mul_le_mul_right W hy
  have dm : ∀ y i : Nat, i < W → (y * W + i) % W = i ∧ (y * W + i) / W = y := fun y i hi => by
    constructor
    · rw [Nat.mul_comm, Nat.mul_add_mod, Nat.mod_eq_of_lt hi]
    · rw [Nat.mul_comm, Nat.mul_add_div (by omega), Nat.div_eq_of_lt hi]; omega
  -- a row
  have inner : ∀ y : Nat, y < H → B ≤ y → y < D → ∀ (KK : Nat → Int × τ → Option (LRes (Int × τ) α)),
      afterL (iterL N (fun v : Int × τ =>
        bif decide (v.1 ≤ ct) then
          bif dom (IntKind.i64.wrap (IntKind.i64.wrap ((y : Int) * W) + v.1)) then
            bif hit (IntKind.i64.wrap (IntKind.i64.wrap ((y : Int) * W) + v.1)) then
              body _ (IntKind.i64.wrap (IntKind.i64.wrap ((y : Int) * W) + v.1)) v.2 fun t => some (LRes.cont (IntKind.i64.wrap (v.1 + 1), t))
            else some (LRes.cont (IntKind.i64.wrap (v.1 + 1), v.2))
          else none
        else some (LRes.brk 2 (v.1, v.2))) ((C : Int), F (y * W))) KK = KK 2 ((E : Int), F ((y + 1) * W)) := fun y hy hy1 hy2 KK => by
    have r1 := row y hy
    rw [Nat.add_mul, Nat.one_mul] at r1
    have s1 : F (y * W + C) = F (y * W) := skip _ _ (by omega) (by omega) fun i h1 h2 => nohit i (by omega) (.inl (by
      have := (dm y (i - y * W) (by omega)).1
      rw [show y * W + (i - y * W) = i by omega] at this; omega))
    have s2 : F ((y + 1) * W) = F (y * W + E) := skip _ _ (by rw [Nat.add_mul, Nat.one_mul]; omega) (row y hy) fun i h1 h2 => nohit i (by rw [Nat.add_mul, Nat.one_mul] at h2; omega) (.inr (.inl (by
      rw [Nat.add_mul, Nat.one_mul] at h2
      have := (dm y (i - y * W) (by omega)).1
      rw [show y * W + (i - y * W) = i by omega] at this; omega)))
    rw [← s1, s2]
    have key := count_loop (f := fun v : Int × τ =>
        bif decide (v.1 ≤ ct) then
          bif dom (IntKind.i64.wrap (IntKind.i64.wrap ((y : Int) * W) + v.1)) then
            bif hit (IntKind.i64.wrap (IntKind.i64.wrap ((y : Int) * W) + v.1)) then
              body _ (IntKind.i64.wrap (IntKind.i64.wrap ((y : Int) * W) + v.1)) v.2 fun t => some (LRes.cont (IntKind.i64.wrap (v.1 + 1), t))
            else some (LRes.cont (IntKind.i64.wrap (v.1 + 1), v.2))
          else none
        else some (LRes.brk 2 (v.1, v.2))) (K := KK) (fun i : Nat => (((C + i : Nat) : Int), F (y * W + C + i))) (E - C) (b := 2) (y := ((E : Int), F (y * W + E))) (fun i hi => ?_) ?_ (N := N) (by omega)
    · exact key
    · have e1 : IntKind.i64.wrap (IntKind.i64.wrap ((y : Int) * W) + ((C + i : Nat) : Int)) = ((y * W + C + i : Nat) : Int) := by
        have e0 : ((y : Int) * W) = ((y * W : Nat) : Int) := by simp
        rw [e0, i64_in ((y * W : Nat) : Int) (by omega), i64_in _ (by omega)]; omega
      have e2 : IntKind.i64.wrap (((C + i : Nat) : Int) + 1) = ((C + (i + 1) : Nat) : Int) := by rw [i64_in _ (by omega)]; omega
      simp only [e1, e2, decide_eq_true (show ((C + i : Nat) : Int) ≤ ct by omega), cond_true, hd (y * W + C + i) (by omega)]
      have e3 := hF1 (y * W + C + i)
      rw [show y * W + C + (i + 1) = y * W + C + i + 1 by omega, e3]
      cases hq : hit ((y * W + C + i : Nat) : Int)
      · rfl
      · rw [cond_true, hb _ (y * W + C + i) _ (by omega) hq]
        rfl
    · simp only [decide_eq_false (show ¬ ((C + (E - C) : Nat) : Int) ≤ ct by omega), cond_false]
      rw [show C + (E - C) = E by omega, show y * W + C + (E - C) = y * W + E by omega]
  have o1 : F (B * W) = t0 := by
    have : F (B * W) = F 0 := by
      have : B ≤ H := by omega
      have hb2 : B * W ≤ W * H := by rw [Nat.mul_comm W H]; exact Nat.mul_le_mul_right W this
      exact skip 0 (B * W) (by omega) hb2 fun i _ h2 => nohit i (by omega) (.inr (.inr (.inl (Nat.div_lt_of_lt_mul (by rw [Nat.mul_comm]; exact h2)))))
    exact this
  have o2 : F (W * H) = F (D * W) := by
    have : D ≤ H := by omega
    have hb2 : D * W ≤ W * H := by rw [Nat.mul_comm W H]; exact Nat.mul_le_mul_right W this
    exact skip (D * W) (W * H) hb2 (Nat.le_refl _) fun i h1 h2 => nohit i h2 (.inr (.inr (.inr ((Nat.le_div_iff_mul_le (by omega)).2 h1))))
  show touL N B bt C ct W dom hit body t0 K = K (F (W * H))
  rw [o2, ← o1]
  unfold touL
  have key := count_loop (f := fun z : Int × τ =>
        bif decide (z.1 ≤ bt) then
          afterL
            (iterL N
              (fun v : Int × τ =>
                bif decide (v.1 ≤ ct) then
                  bif dom (IntKind.i64.wrap (IntKind.i64.wrap (z.1 * W) + v.1)) then
                    bif hit (IntKind.i64.wrap (IntKind.i64.wrap (z.1 * W) + v.1)) then
                      body _ (IntKind.i64.wrap (IntKind.i64.wrap (z.1 * W) + v.1)) v.2 fun t => some (LRes.cont (IntKind.i64.wrap (v.1 + 1), t))
                    else some (LRes.cont (IntKind.i64.wrap (v.1 + 1), v.2))
                  else none
                else some (LRes.brk 2 (v.1, v.2)))
              ((C : Int), z.2))
            fun id y => if id = 2 then some (LRes.cont (IntKind.i64.wrap (z.1 + 1), y.2)) else none
        else some (LRes.brk 0 (z.1, z.2))) (K := fun id y => if id = 0 then K y.2 else none) (fun j : Nat => (((B + j : Nat) : Int), F ((B + j) * W))) (D - B) (b := 0) (y := ((D : Int), F (D * W))) (fun j hj => ?_) ?_ (N := N) (by omega)
  · exact key
  · simp only [decide_eq_true (show ((B + j : Nat) : Int) ≤ bt by omega), cond_true]
    rw [inner (B + j) (by omega) (by omega) (by omega), if_pos rfl]
    rw [i64_in _ (by omega), show ((B + j : Nat) : Int) + 1 = ((B + (j + 1) : Nat) : Int) by omega]
    rfl
  · simp only [decide_eq_false (show ¬ ((B + (D - B) : Nat) : Int) ≤ bt by omega), cond_false]
    rw [show B + (D - B) = D by omega]
end
def isC (cx cy sd w h : Int) (pb po : List Int) (x y u v c : Int) : Bool := iceB cx cy sd w h pb po && (plcB x y && plcB u v) && (decide (0 ≤ c) && decide (c < w * h))
def appC : (β : Type) → Int → List Int × Unit → (List Int × Unit → Option β) → Option β := fun _ c t k => if (t.1.length + [c].length) * 8 ≤ room then k (t.1 ++ [c], ()) else none
end Go.Proofs.YtgpljldfbhkdlaaGreat

namespace Go.Proofs.YtgpljldfbhkdlaaGreat
open Go.RowKit
def whL (hit : Nat → Bool) (n : Nat) : List Int := ((List.range n).filter hit).map (fun i : Nat => (i : Int))
theorem whL_succ (hit : Nat → Bool) (n : Nat) : whL hit (n + 1) = whL hit n ++ (bif hit n then [(n : Int)] else []) := by
  unfold whL
  rw [List.range_succ, List.filter_append, List.map_append]
  cases h : hit n <;> simp [List.filter_cons, h]
theorem whL_len (hit : Nat → Bool) (n : Nat) : (whL hit n).length ≤ n := by
  unfold whL
  rw [List.length_map]
  exact Nat.le_trans (List.length_filter_le _ _) (by simp)
theorem fold_app (hit : Nat → Bool) : ∀ n, foldC hit (fun n (t : List Int × Unit) => (t.1 ++ [(n : Int)], ())) ([], ()) n = (whL hit n, ())
  | 0 => rfl
  | n + 1 => by
    simp only [foldC]
    rw [fold_app hit n, whL_succ]
    cases hit n <;> simp
def cels (w h : Int) : Nat := (w * h).toNat
def twB (cx cy sd w h : Int) (pb po : List Int) (x y u v : Int) : Bool := iceB cx cy sd w h pb po && (plcB x y && plcB u v)
def tchL (cx cy sd w h x y u v : Int) : List Int := whL (fun n => toB cx cy sd w x y u v n) (cels w h)
def tcV (cx cy sd w h : Int) (pb po : List Int) (x y u v : Int) : List Int := bif twB cx cy sd w h pb po x y u v then tchL cx cy sd w h x y u v else []
theorem any_off2 (x y u v : Int) : [(x, y, ()), (u, v, ())].any offS = !(plcB x y && plcB u v) := by simp [offS]
theorem bd_of {co sd many a b : Int} (h1 : -6553600000 ≤ co ∧ co ≤ 6553600000) (h2 : 1 ≤ sd ∧ sd ≤ 6553600000) (h3 : 1 ≤ many ∧ many ≤ 256) (h4 : -6553600000 ≤ a ∧ a ≤ 6553600000) (h5 : -6553600000 ≤ b ∧ b ≤ 6553600000) : bdB co sd many a b = true := by
  simp only [bdB, Bool.and_eq_true, decide_eq_true_eq]
  exact ⟨⟨⟨⟨h1, h2⟩, h3⟩, h4⟩, h5⟩
theorem tou_ice {τ α : Type} (cx cy sd w h : Int) (pb po : List Int) (x y u v : Int) (hb : twB cx cy sd w h pb po x y u v = true) (body : (β : Type) → Int → τ → (τ → Option β) → Option β) (upd : Nat → τ → τ) (t0 : τ)
    (hbd : ∀ (β : Type) (n : Nat) (k : τ → Option β), n < cels w h → body β n (foldC (fun n => toB cx cy sd w x y u v n) upd t0 n) k = k (upd n (foldC (fun n => toB cx cy sd w x y u v n) upd t0 n))) (K : τ → Option α) {N : Nat} (hN : 300 < N) :
    touL N (bdF cy sd h y v) (bdT cy sd h y v) (bdF cx sd w x u) (bdT cx sd w x u) w (isC cx cy sd w h pb po x y u v) (toB cx cy sd w x y u v) body t0 K = K (foldC (fun n => toB cx cy sd w x y u v n) upd t0 (cels w h)) := by
  have hb' := hb
  simp only [twB, Bool.and_eq_true, plc_iff] at hb'
  obtain ⟨hI, hp, hq⟩ := hb'
  have g := ice_is _ _ _ _ _ _ _ hI
  have gw := g.fw; have gh := g.fh; have gs := g.fs; have gc := g.fc
  obtain ⟨b0, b1, b2⟩ := bd_in (bd_of gc.2 gs gh hp.2 hq.2)
  obtain ⟨c0, c1, c2⟩ := bd_in (bd_of gc.1 gs gw hp.1 hq.1)
  obtain ⟨W, rfl⟩ := Int.eq_ofNat_of_zero_le (show 0 ≤ w by omega)
  obtain ⟨H, rfl⟩ := Int.eq_ofNat_of_zero_le (show 0 ≤ h by omega)
  have hc : cels W H = W * H := by unfold cels; omega
  have hlt : ∀ n : Nat, n < W * H → (n : Int) < (W : Int) * H := fun n hn => by
    have : ((n : Nat) : Int) < ((W * H : Nat) : Int) := by omega
    rwa [Int.natCast_mul] at this
  rw [hc]
  refine touL_eq W H ⟨by omega, by omega⟩ ⟨by omega, by omega⟩ b0 b1 b2 c0 c1 c2 (fun n hn => ?_) (fun n hn hh => ?_) body upd t0 (fun β n k hn _ => hbd β n k (by rw [hc]; exact hn)) K hN
  · unfold isC
    unfold twB at hb
    rw [hb, decide_eq_true (show (0 : Int) ≤ n by omega), decide_eq_true (hlt n hn)]; rfl
  · obtain ⟨⟨p0, p1⟩, ⟨q0, q1⟩, _⟩ := cell_at gc gs gw gh (show (0 : Int) ≤ n by omega) (hlt n hn)
    simp only [toB, touB, Bool.and_eq_true, decide_eq_true_eq] at hh
    obtain ⟨⟨⟨a1, a2⟩, a3, a4⟩, _⟩ := hh
    have e1 : ((n % W : Nat) : Int) = (n : Int) % W := by simp
    have e2 : ((n / W : Nat) : Int) = (n : Int) / W := by simp
    rw [e1, e2]
    exact ⟨bd_hit gs.1 p0 p1 a1 a2, bd_hit gs.1 q0 q1 a3 a4⟩
theorem cels_le {w h : Int} (hw : 1 ≤ w ∧ w ≤ 256) (hh : 1 ≤ h ∧ h ≤ 256) : cels w h ≤ 65536 ∧ ((cels w h : Nat) : Int) = w * h := by
  have := mul_in (a := w) (b := h) (A := 256) (B := 256) ⟨by omega, by omega⟩ ⟨by omega, by omega⟩
  unfold cels; omega
noncomputable def itouchedS : Fsp := fun _ args k => match args with
  | [.agg [.int .i64 cx, .int .i64 cy, .int .i64 sd, .int .i64 w, .int .i64 h, .ro (.int .i64) pb, .ro (.int .i64) po], .agg [.int .i64 x, .int .i64 y], .agg [.int .i64 u, .int .i64 v]] => k (.ret (.tup [.ro (.int .i64) (tcV cx cy sd w h pb po x y u v), .int .i64 (er2 (twB cx cy sd w h pb po x y u v))]))
  | _ => none
noncomputable def fsIt : FuncId → Option Fsp := fun g =>
  fsI8 g
theorem fsIt_ok : FsOk fsIt :=
  fsI8_ok
end Go.Proofs.YtgpljldfbhkdlaaGreat

namespace Go.Proofs.YtgpljldfbhkdlaaGreat
open Go.RowKit
set_option maxRecDepth 100000 in
theorem itchd_text (N n0 : Nat) (α : Type) (cx cy sd w h : Int) (pb po : List Int) (x y u v : Int) (k : AOut → Option α) : evFn real tab ((twY fsI8 spL).env real tab N (n0 + 8)) N Tryz.f124 α [.agg [.int .i64 cx, .int .i64 cy, .int .i64 sd, .int .i64 w, .int .i64 h, .ro (.int .i64) pb, .ro (.int .i64) po], .agg [.int .i64 x, .int .i64 y], .agg [.int .i64 u, .int .i64 v]] k =
 k (AOut.ret (AVal.fn 171 [AVal.rp [AVal.int IntKind.i64 cx, AVal.int IntKind.i64 cy, AVal.int IntKind.i64 sd, AVal.int IntKind.i64 w, AVal.int IntKind.i64 h, AVal.ro (Sh.int
 IntKind.i64) pb, AVal.ro (Sh.int IntKind.i64) po], AVal.rp [AVal.int IntKind.i64 x, AVal.int IntKind.i64 y], AVal.rp [AVal.int IntKind.i64 u, AVal.int IntKind.i64 v]])) := by
 kernel_rfl
theorem clone_text (N n0 : Nat) (α : Type) (xs : List Int) (k : AOut → Option α) : evFn real tab ((twY fsI8 spL).env real tab N (n0 + 8)) N Tryz.f68 α [.ro (.int .i64) xs] k = if 0 < xs.length then if (List.length (α := Int) [] + xs.length) * 8 ≤ room then k (.ret (.ro (.int .i64) ((List.nil (α := Int)) ++ xs))) else none else none := by kernel_rfl
theorem itchd_fin (cx cy sd w h : Int) (pb po : List Int) (x y u v : Int) (hs : ∀ qSm ∈ ([.agg [.int .i64 cx, .int .i64 cy, .int .i64 sd, .int .i64 w, .int .i64 h, .ro (.int .i64) pb, .ro (.int .i64) po], .agg [.int .i64 x, .int .i64 y], .agg [.int .i64 u, .int .i64 v]] : List AVal), Sm qSm) : ∃ N n, ∀ α (k : AOut → Option α), evFn real tab ((twY fsI8 spL).env real tab N n) N Tryz.f124 α [.agg [.int .i64 cx, .int .i64 cy, .int .i64 sd, .int .i64 w, .int .i64 h, .ro (.int .i64) pb, .ro (.int .i64) po], .agg [.int .i64 x, .int .i64 y], .agg [.int .i64 u, .int .i64 v]] k = k (.ret (.fn 171 [.rp [.int .i64 cx, .int .i64 cy, .int .i64 sd, .int .i64 w, .int .i64 h, .ro (.int .i64) pb, .ro (.int .i64) po], .rp [.int .i64 x, .int .i64 y], .rp [.int .i64 u, .int .i64 v]])) := by
  exact ⟨8, 8, fun α k => itchd_text 8 0 α cx cy sd w h pb po x y u v k⟩
noncomputable def itchdS : Fsp := fun _ args k => match args with
  | [.agg [.int .i64 cx, .int .i64 cy, .int .i64 sd, .int .i64 w, .int .i64 h, .ro (.int .i64) pb, .ro (.int .i64) po], .agg [.int .i64 x, .int .i64 y], .agg [.int .i64 u, .int .i64 v]] => k (.ret (.fn 171 [.rp [.int .i64 cx, .int .i64 cy, .int .i64 sd, .int .i64 w, .int .i64 h, .ro (.int .i64) pb, .ro (.int .i64) po], .rp [.int .i64 x, .int .i64 y], .rp [.int .i64 u, .int .i64 v]]))
  | _ => none
theorem itchdS_ok : FspOk Tryz.prog 124 itchdS := tower_Y fsI8_ok spL_ok ⟨Tryz.func124, fun _ _ => by kernel_rfl⟩ (by intro α args k; unfold itchdS; split <;> rfl) fun args out hSm hEq => by
  unfold itchdS at hEq
  split at hEq
  · rename_i cx cy sd w h pb po x y u v
    obtain ⟨N, n, e⟩ := itchd_fin cx cy sd w h pb po x y u v hSm
    exact ⟨N, n, (e AOut some).trans hEq⟩
  · cases hEq
theorem clone_fin (xs : List Int) (hs : ∀ qSm ∈ ([.ro (.int .i64) xs] : List AVal), Sm qSm) (hCo : (decide (0 < List.length (α := Int) xs) && decide (List.length (α := Int) xs ≤ 65536)) = true) : ∃ N n, ∀ α (k : AOut → Option α), evFn real tab ((twY fsI8 spL).env real tab N n) N Tryz.f68 α [.ro (.int .i64) xs] k = k (.ret (.ro (.int .i64) xs)) := by
  simp only [Bool.and_eq_true, decide_eq_true_eq] at hCo
  refine ⟨8, 8, fun α k => (clone_text 8 0 α xs k).trans ?_⟩
  rw [if_pos hCo.1, if_pos (by simp [room]; omega)]
  rfl
noncomputable def cloneS : Fsp := fun _ args k => match args with
  | [.ro (.int .i64) xs] => bif decide (0 < List.length (α := Int) xs) && decide (List.length (α := Int) xs ≤ 65536) then k (.ret (.ro (.int .i64) xs)) else none
  | _ => none
theorem cloneS_ok : FspOk Tryz.prog 68 cloneS := tower_Y fsI8_ok spL_ok ⟨Tryz.func68, fun _ _ => by kernel_rfl⟩ (by intro α args k; unfold cloneS; split <;> simp only [cond_bind, Option.bind_some, Option.bind_none]) fun args out hSm hEq => by
  unfold cloneS at hEq
  split at hEq
  · rename_i xs
    cases hc : decide (0 < List.length (α := Int) xs) && decide (List.length (α := Int) xs ≤ 65536)
    · rw [hc] at hEq; cases hEq
    · rw [hc] at hEq
      obtain ⟨N, n, e⟩ := clone_fin xs hSm hc
      exact ⟨N, n, (e AOut some).trans hEq⟩
  · cases hEq
/-! What is done with each cell. -/
def wornV (n we : Int) : Int := if 0 < IntKind.i64.wrap (n - we) then IntKind.i64.wrap (n - we) else 0
def moreV (n s : Int) : Int := if IntKind.i64.wrap (n + s) < 1000 then IntKind.i64.wrap (n + s) else 1000
def capV (n d : Int) : Int := if n < d then n else d
theorem ipass1_text (N n0 : Nat) (α : Type) (z fl ke sw be we : Int) (k : AOut → Option α) : evFn real tab ((twY fsI8 spL).env real tab N (n0 + 8)) N Tryz.f125 α [.int .i64 z, .rp [.int .i64 fl, .int .i64 ke, .int .i64 sw, .int .i64 be, .int .i64 we]] k = k (i1 (wornV z we)) := by kernel_rfl
theorem isweep1_text (N n0 : Nat) (α : Type) (z b : Int) (k : AOut → Option α) : evFn real tab ((twY fsI8 spL).env real tab N (n0 + 8)) N Tryz.f129 α [.int .i64 z, .rp [.int .i64 b]] k = k (i1 (moreV z b)) := by kernel_rfl
theorem ipass1_fin (z fl ke sw be we : Int) (hs : ∀ qSm ∈ ([.int .i64 z, .rp [.int .i64 fl, .int .i64 ke, .int .i64 sw, .int .i64 be, .int .i64 we]] : List AVal), Sm qSm) : ∃ N n, ∀ α (k : AOut → Option α), evFn real tab ((twY fsI8 spL).env real tab N n) N Tryz.f125 α [.int .i64 z, .rp [.int .i64 fl, .int .i64 ke, .int .i64 sw, .int .i64 be, .int .i64 we]] k = k (i1 (wornV z we)) := by
  exact ⟨8, 8, fun α k => ipass1_text 8 0 α z fl ke sw be we k⟩
noncomputable def ipass1S : Fsp := fun _ args k => match args with
  | [.int .i64 z, .rp [.int .i64 fl, .int .i64 ke, .int .i64 sw, .int .i64 be, .int .i64 we]] => k (i1 (wornV z we))
  | _ => none
theorem ipass1S_ok : FspOk Tryz.prog 125 ipass1S := tower_Y fsI8_ok spL_ok ⟨Tryz.func125, fun _ _ => by kernel_rfl⟩ (by intro α args k; unfold ipass1S; split <;> rfl) fun args out hSm hEq => by
  unfold ipass1S at hEq
  split at hEq
  · rename_i z fl ke sw be we
    obtain ⟨N, n, e⟩ := ipass1_fin z fl ke sw be we hSm
    exact ⟨N, n, (e AOut some).trans hEq⟩
  · cases hEq
theorem isweep1_fin (z b : Int) (hs : ∀ qSm ∈ ([.int .i64 z, .rp [.int .i64 b]] : List AVal), Sm qSm) : ∃ N n, ∀ α (k : AOut → Option α), evFn real tab ((twY fsI8 spL).env real tab N n) N Tryz.f129 α [.int .i64 z, .rp [.int .i64 b]] k = k (i1 (moreV z b)) := by
  exact ⟨8, 8, fun α k => isweep1_text 8 0 α z b k⟩
noncomputable def isweep1S : Fsp := fun _ args k => match args with
  | [.int .i64 z, .rp [.int .i64 b]] => k (i1 (moreV z b))
  | _ => none
theorem isweep1S_ok : FspOk Tryz.prog 129 isweep1S := tower_Y fsI8_ok spL_ok ⟨Tryz.func129, fun _ _ => by kernel_rfl⟩ (by intro α args k; unfold isweep1S; split <;> rfl) fun args out hSm hEq => by
  unfold isweep1S at hEq
  split at hEq
  · rename_i z b
    obtain ⟨N, n, e⟩ := isweep1_fin z b hSm
    exact ⟨N, n, (e AOut some).trans hEq⟩
  · cases hEq
noncomputable def ifade1S : Fsp := fun _ args k => match args with
  | [.int .i64 z, .rp [.int .i64 b]] => k (i1 (wornV z b))
  | _ => none
noncomputable def iscrape1S : Fsp := fun _ args k => match args with
  | [.int .i64 z, .rp [.int .i64 b]] => k (i1 (capV z b))
  | _ => none
noncomputable def iscrape2S : Fsp := fun _ args k => match args with
  | [.int .i64 z] => k (i1 0)
  | _ => none
noncomputable def ispray2S : Fsp := fun _ args k => match args with
  | [.int .i64 z, .rp [.int .i64 b]] => k (i1 (moreV z b))
  | _ => none
noncomputable def fsI9 : FuncId → Option Fsp := fun g =>
  if g = 124 then some itchdS else
  if g = 68 then some cloneS else
  if g = 125 then some ipass1S else
  if g = 129 then some isweep1S else
  fsIt g
theorem fsI9_ok : FsOk fsI9 :=
  fs_cons itchdS_ok <|
  fs_cons cloneS_ok <|
  fs_cons ipass1S_ok <|
  fs_cons isweep1S_ok <|
  fsIt_ok
end Go.Proofs.YtgpljldfbhkdlaaGreat

namespace Go.Proofs.YtgpljldfbhkdlaaGreat
open Go.RowKit
/-! Lists, some of whose numbers something is done with. -/
def chgL (hit : Nat → Bool) (f : Int → Int) (l : List Int) : List Int := (List.range l.length).map fun i => bif hit i then f (l.getD i 0) else l.getD i 0
def updL (f : Int → Int) (i : Nat) (t : List Int) : List Int := t.set i (f (t.getD i 0))
theorem fold_len (hit : Nat → Bool) (f : Int → Int) (l : List Int) : ∀ n, (foldC hit (updL f) l n).length = l.length
  | 0 => rfl
  | n + 1 => by
    simp only [foldC]
    cases hit n
    · exact fold_len hit f l n
    · simp only [cond_true, updL, List.length_set]; exact fold_len hit f l n
theorem fold_get (hit : Nat → Bool) (f : Int → Int) (l : List Int) : ∀ n, n ≤ l.length → ∀ j, (foldC hit (updL f) l n).getD j 0 = bif decide (j < n) && hit j then f (l.getD j 0) else l.getD j 0
  | 0, _, j => by simp [foldC]
  | n + 1, hn, j => by
    have ih := fold_get hit f l n (by omega)
    have hlen := fold_len hit f l n
    simp only [foldC]
    cases hh : hit n
    · rw [cond_false, ih j]
      by_cases hj : j = n
      · subst hj; rw [hh]; simp
      · have : decide (j < n + 1) = decide (j < n) := by rw [decide_eq_decide]; omega
        rw [this]
    · rw [cond_true]
      generalize foldC hit (updL f) l n = F at *
      unfold updL
      by_cases hj : j = n
      · subst hj
        rw [List.getD_eq_getElem?_getD, List.getElem?_set_self (by omega), Option.getD_some, ih j, hh]
        simp
      · rw [List.getD_eq_getElem?_getD, List.getElem?_set_ne (by omega), ← List.getD_eq_getElem?_getD, ih j]
        have : decide (j < n + 1) = decide (j < n) := by rw [decide_eq_decide]; omega
        rw [this]
theorem fold_chg (hit : Nat → Bool) (f : Int → Int) (l : List Int) : foldC hit (updL f) l l.length = chgL hit f l := by
  refine List.ext_getElem (by rw [fold_len]; simp [chgL]) fun i h1 h2 => ?_
  have a := fold_get hit f l l.length (Nat.le_refl _) i
  rw [List.getD_eq_getElem?_getD, List.getElem?_eq_getElem h1, Option.getD_some] at a
  rw [fold_len] at h1
  rw [a, decide_eq_true h1, Bool.true_and]
  simp [chgL]
theorem chg_len (hit : Nat → Bool) (f : Int → Int) (l : List Int) : (chgL hit f l).length = l.length := by simp [chgL]
theorem chg_get (hit : Nat → Bool) (f : Int → Int) (l : List Int) {j : Nat} (hj : j < l.length) : (chgL hit f l).getD j 0 = bif hit j then f (l.getD j 0) else l.getD j 0 := by
  rw [← fold_chg, fold_get hit f l l.length (Nat.le_refl _), decide_eq_true hj, Bool.true_and]
/-! Boxes. -/
def inBx (cx cy sd w x y u v c : Int) : Bool := (decide (x ≤ cx + c % w * sd) && decide (y ≤ cy + c / w * sd)) && (decide (cx + c % w * sd + sd ≤ u) && decide (cy + c / w * sd + sd ≤ v))
section
variable {σ α : Type}
def bxF (cx cy sd w h x y u v : Int) (gc : σ → Int) (nx : σ → σ) (hk : σ → Option (LRes σ α)) (z : σ) : Option (LRes σ α) :=
  bif decide (gc z < IntKind.i64.wrap (w * h)) then
    if w = 0 then none else if w = 0 then none
    else
      bif decide (lwX cx sd w (gc z) ≥ x) then
        bif decide (lwY cy sd w (gc z) ≥ y) then
          bif decide (hgX cx sd w (gc z) ≤ u) then
            bif decide (hgY cy sd w (gc z) ≤ v) then hk z
            else some (LRes.cont (nx z))
          else some (LRes.cont (nx z))
        else some (LRes.cont (nx z))
      else some (LRes.cont (nx z))
  else some (LRes.brk 0 z)
theorem bx_loop (cx cy sd w h : Int) (pb po : List Int) (x y u v : Int) (g : IceIs cx cy sd w h pb po) (gc : σ → Int) (nx : σ → σ) (hk : σ → Option (LRes σ α)) (st : Nat → σ) (h0 : ∀ i, gc (st i) = i) (h1 : ∀ i, i < cels w h → inBx cx cy sd w x y u v i = true → hk (st i) = some (.cont (st (i + 1)))) (h2 : ∀ i, i < cels w h → inBx cx cy sd w x y u v i = false → nx (st i) = st (i + 1)) (K : Nat → σ → Option α) {N : Nat} (hN : cels w h < N) :
    afterL (iterL N (bxF cx cy sd w h x y u v gc nx hk) (st 0)) K = K 0 (st (cels w h)) := by
  obtain ⟨c1, c2⟩ := cels_le g.fw g.fh
  have gw := g.fw
  refine count_loop (f := bxF cx cy sd w h x y u v gc nx hk) st (cels w h) (fun i hi => ?_) ?_ hN
  · obtain ⟨e1, e2, e3, e4⟩ := lw_eq g.fc g.fs g.fw g.fh (show (0 : Int) ≤ i by omega) (show (i : Int) < w * h by omega)
    unfold bxF
    rw [h0 i, e1, e2, e3, e4, i64_in (w * h) (by omega), decide_eq_true (show (i : Int) < w * h by omega), cond_true, if_neg (by omega), if_neg (by omega)]
    have a1 := h1 i hi
    have a2 := h2 i hi
    show (bif decide (x ≤ cx + (i : Int) % w * sd) then bif decide (y ≤ cy + (i : Int) / w * sd) then bif decide (cx + (i : Int) % w * sd + sd ≤ u) then bif decide (cy + (i : Int) / w * sd + sd ≤ v) then _ else _ else _ else _ else _) = _
    unfold inBx at a1 a2
    revert a1 a2
    cases decide (x ≤ cx + (i : Int) % w * sd) <;> cases decide (y ≤ cy + (i : Int) / w * sd) <;> cases decide (cx + (i : Int) % w * sd + sd ≤ u) <;> cases decide (cy + (i : Int) / w * sd + sd ≤ v) <;> intro a1 a2 <;> first | exact a1 rfl | (simp only [cond_true, cond_false]; rw [a2 rfl])
  · unfold bxF
    rw [h0, i64_in (w * h) (by omega), decide_eq_false (by omega)]
    rfl
end
def setK {α : Type} (f : Int → Int) (z : List Int × Int × Unit) : Option (LRes (List Int × Int × Unit) α) :=
  if 0 ≤ z.2.1 ∧ z.2.1 < (z.1.length : Int) then if 0 ≤ z.2.1 ∧ z.2.1 < (z.1.length : Int) then some (LRes.cont (z.1.set z.2.1.toNat (f (z.1.getD z.2.1.toNat 0)), IntKind.i64.wrap (z.2.1 + 1), ())) else none else none
abbrev nxL : List Int × Int × Unit → List Int × Int × Unit := fun z => (z.1, IntKind.i64.wrap (z.2.1 + 1), ())
def whlC (xs : List Int) : Prop := 0 < xs.length ∧ xs.length ≤ 65536
theorem bx_list {α : Type} (cx cy sd w h : Int) (pb po : List Int) (x y u v : Int) (g : IceIs cx cy sd w h pb po) (xs : List Int) (hx : (xs.length : Int) = w * h) (f : Int → Int) (more : Nat → Bool) (hk : List Int × Int × Unit → Option (LRes (List Int × Int × Unit) α))
    (hkt : ∀ (t : List Int) (i : Nat), i < cels w h → t.length = xs.length → hk (t, (i : Int), ()) = bif more i then some (.cont (updL f i t, ((i + 1 : Nat) : Int), ())) else some (.cont (t, ((i + 1 : Nat) : Int), ()))) (K : Nat → List Int × Int × Unit → Option α) {N : Nat} (hN : cels w h < N) :
    afterL (iterL N (bxF cx cy sd w h x y u v (fun z : List Int × Int × Unit => z.2.1) nxL hk) (xs, 0, ())) K = K 0 (chgL (fun i => inBx cx cy sd w x y u v i && more i) f xs, ((cels w h : Nat) : Int), ()) := by
  obtain ⟨c1, c2⟩ := cels_le g.fw g.fh
  have hcl : cels w h = xs.length := by omega
  have key := bx_loop cx cy sd w h pb po x y u v g (fun z : List Int × Int × Unit => z.2.1) nxL hk (fun i : Nat => (foldC (fun i => inBx cx cy sd w x y u v i && more i) (updL f) xs i, (i : Int), ())) (fun i => rfl) (fun i hi hh => ?_) (fun i hi hh => ?_) K hN
  · rw [hcl, fold_chg] at key
    rw [hcl]
    exact key
  · rw [hkt _ i hi (fold_len ..)]
    simp only [foldC, hh, Bool.true_and]
    cases more i <;> rfl
  · show (_, IntKind.i64.wrap ((i : Int) + 1), ()) = _
    rw [i64_in _ (by omega)]
    simp only [foldC, hh, Bool.false_and, cond_false]
    rfl
theorem setK_eq {α : Type} (f : Int → Int) {t : List Int} {i n : Nat} (hi : i < n) (ht : t.length = n) (hn : n ≤ 65536) : setK (α := α) f (t, (i : Int), ()) = some (.cont (updL f i t, ((i + 1 : Nat) : Int), ())) := by
  unfold setK
  simp only
  rw [if_pos ⟨by omega, by omega⟩, if_pos ⟨by omega, by omega⟩, i64_in _ (by omega), Int.toNat_natCast]
  rfl
def lnB (xs : List Int) (w h : Int) : Bool := (xs.length : Int) == w * h
noncomputable def fsI10 : FuncId → Option Fsp := fun g =>
  fsI9 g
theorem fsI10_ok : FsOk fsI10 :=
  fsI9_ok
end Go.Proofs.YtgpljldfbhkdlaaGreat

namespace Go.Proofs.YtgpljldfbhkdlaaGreat
open Go.RowKit
abbrev icO (cx cy sd w h : Int) (pb po : List Int) : AOut := .ret (.tup [.agg [.int .i64 cx, .int .i64 cy, .int .i64 sd, .int .i64 w, .int .i64 h, .ro (.int .i64) pb, .ro (.int .i64) po], .int .i64 0])
abbrev icN : AOut := .ret (.tup [.agg [.int .i64 0, .int .i64 0, .int .i64 0, .int .i64 0, .int .i64 0, .nils, .nils], .int .i64 2])
def setC (f : Int → Int) : (β : Type) → Int → List Int → (List Int → Option β) → Option β := fun _ c t k =>
  if 0 ≤ c ∧ c < (t.length : Int) then if 0 ≤ c ∧ c < (t.length : Int) then k (t.set c.toNat (f (t.getD c.toNat 0))) else none else none
def touM {α : Type} (N : Nat) (bf bt cf ct w : Int) (dom hit : Int → Bool) (f : Int → Int) (t0 : List Int) (K : List Int → Option α) : Option α :=
  afterL
    (iterL N
      (fun z : List Int × Int × Unit =>
        bif decide (z.2.1 ≤ bt) then
          afterL
            (iterL N
              (fun v : List Int × Int × Unit =>
                bif decide (v.2.1 ≤ ct) then
                  bif dom (IntKind.i64.wrap (IntKind.i64.wrap (z.2.1 * w) + v.2.1)) then
                    bif hit (IntKind.i64.wrap (IntKind.i64.wrap (z.2.1 * w) + v.2.1)) then
                      setC f _ (IntKind.i64.wrap (IntKind.i64.wrap (z.2.1 * w) + v.2.1)) v.1 fun t => some (LRes.cont (t, IntKind.i64.wrap (v.2.1 + 1), ()))
                    else some (LRes.cont (v.1, IntKind.i64.wrap (v.2.1 + 1), ()))
                  else none
                else some (LRes.brk 2 (v.1, v.2.1, ())))
              (z.1, cf, ()))
            fun id y => if id = 2 then some (LRes.cont (y.1, IntKind.i64.wrap (z.2.1 + 1), ())) else none
        else some (LRes.brk 0 (z.1, z.2.1, ())))
      (t0, bf, ()))
    fun id y => if id = 0 then K y.1 else none
set_option maxRecDepth 100000 in
theorem ipass_text (N n0 : Nat) (α : Type) (cx cy sd w h : Int) (pb po : List Int) (fl ke sw be we : Int) (x y u v : Int) (k : AOut → Option α) : evFn real tab ((twY fsI9 spL).env real tab N (n0 + 8)) N Tryz.f72 α [.agg [.int .i64 cx, .int .i64 cy, .int .i64 sd, .int .i64 w, .int .i64 h, .ro (.int .i64) pb, .ro (.int .i64) po], .agg [.int .i64 fl, .int .i64 ke, .int .i64 sw, .int .i64 be, .int .i64 we], .agg [.int .i64 x, .int .i64 y], .agg [.int .i64 u, .int .i64 v]] k =
 bif er2 (iceB cx cy sd w h pb po) == 0 then bif er2 (graB fl ke sw be we) == 0 then bif !!([(x, y, ()), (u, v, ())].any offS) then k icN else if 0 < pb.length then if (List.length
 (α := Int) [] + pb.length) * 8 ≤ room then bif bdB cx sd w x u then bif bdB cy sd h y v then touM N (bdF cy sd h y v) (bdT cy sd h y v) (bdF cx sd w x u) (bdT cx sd w x u) w (isC cx
 cy sd w h pb po x y u v) (toB cx cy sd w x y u v) (fun n => wornV n we) ((List.nil (α := Int)) ++ pb) fun t => bif decide (0 < po.length) && decide (po.length ≤ 65536) then k (icO
 cx cy sd w h t po) else none else none else none else none else none else k icN else k icN := by kernel_rfl
set_option maxRecDepth 100000 in
theorem isweep_text (N n0 : Nat) (α : Type) (cx cy sd w h : Int) (pb po : List Int) (x y u v b : Int) (k : AOut → Option α) : evFn real tab ((twY fsI9 spL).env real tab N (n0 + 8)) N Tryz.f73 α [.agg [.int .i64 cx, .int .i64 cy, .int .i64 sd, .int .i64 w, .int .i64 h, .ro (.int .i64) pb, .ro (.int .i64) po], .agg [.int .i64 x, .int .i64 y], .agg [.int .i64 u, .int .i64 v], .int .i64 b] k =
 bif er2 (iceB cx cy sd w h pb po) != 0 then k icN else bif !!([(x, y, ()), (u, v, ())].any offS) then k icN else bif decide (0 ≤ b) then bif !decide (b ≤ 1000) then k icN else if 0
 < po.length then if (List.length (α := Int) [] + po.length) * 8 ≤ room then bif bdB cx sd w x u then bif bdB cy sd h y v then touM N (bdF cy sd h y v) (bdT cy sd h y v) (bdF cx sd w
 x u) (bdT cx sd w x u) w (isC cx cy sd w h pb po x y u v) (toB cx cy sd w x y u v) (fun n => moreV n b) ((List.nil (α := Int)) ++ po) fun t => bif decide (0 < pb.length) && decide
 (pb.length ≤ 65536) then k (icO cx cy sd w h pb t) else none else none else none else none else none else k icN := by kernel_rfl
def fadF {α : Type} (wh : Int) (f : Int → Int) : List Int × Int × Unit → Option (LRes (List Int × Int × Unit) α) := fun z =>
  bif decide (z.2.1 < wh) then setK f z else some (LRes.brk 0 (z.1, z.2.1, ()))
def spyK {α : Type} (w tn b : Int) (z : List Int × Int × Unit) : Option (LRes (List Int × Int × Unit) α) :=
  if w = 0 then none else if w = 0 then none
  else bif (IntKind.i64.wrap (IntKind.i64.wrap (z.2.1.tmod w + IntKind.i64.wrap (z.2.1.tdiv w)) + tn)).tmod 2 == 0 then setK (fun n => moreV n b) z else some (LRes.cont (nxL z))
def meaK {α : Type} (pb : List Int) (z : Int × Int × Int × Unit) : Option (LRes (Int × Int × Int × Unit) α) :=
  if 0 ≤ z.1 ∧ z.1 < (pb.length : Int) then some (LRes.cont (IntKind.i64.wrap (z.1 + 1), IntKind.i64.wrap (z.2.1 + pb.getD z.1.toNat 0), IntKind.i64.wrap (z.2.2.1 + 1), ())) else none
abbrev nxM : Int × Int × Int × Unit → Int × Int × Int × Unit := fun z => (IntKind.i64.wrap (z.1 + 1), z.2.1, z.2.2.1, ())
def i3 (a b e : Int) : AOut := .ret (.tup [.int .i64 a, .int .i64 b, .int .i64 e])
end Go.Proofs.YtgpljldfbhkdlaaGreat

namespace Go.Proofs.YtgpljldfbhkdlaaGreat
open Go.RowKit
section
variable {σ τ α β : Type}
def LRes.map (e : σ → τ) (g : α → β) : LRes σ α → LRes τ β
  | .cont x => .cont (e x)
  | .brk id x => .brk id (e x)
  | .fin a => .fin (g a)
theorem iterL_conj (e : σ → τ) (g : α → β) (f : σ → Option (LRes σ α)) (f' : τ → Option (LRes τ β)) (h : ∀ x, f' (e x) = (f x).map (LRes.map e g)) : ∀ N x, iterL N f' (e x) = (iterL N f x).map (LRes.map e g)
  | 0, _ => rfl
  | N + 1, x => by
    simp only [iterL, h x]
    cases hf : f x with
    | none => rfl
    | some r =>
      cases r with
      | cont y => exact iterL_conj e g f f' h N y
      | brk id y => rfl
      | fin a => rfl
theorem loop_conj (e : σ → τ) (g : α → β) (f : σ → Option (LRes σ α)) (f' : τ → Option (LRes τ β)) (h : ∀ x, f' (e x) = (f x).map (LRes.map e g)) (k : Nat → σ → Option α) (k' : Nat → τ → Option β) (hk : ∀ id x, k' id (e x) = (k id x).map g) (N : Nat) (x : σ) :
    afterL (iterL N f' (e x)) k' = (afterL (iterL N f x) k).map g := by
  rw [iterL_conj e g f f' h]
  cases iterL N f x with
  | none => rfl
  | some r =>
    cases r with
    | cont y => rfl
    | brk id y => exact hk id y
    | fin a => rfl
end
abbrev swpE : Int × List Int → List Int × Int × Unit := fun p => (p.2, p.1, ())
theorem setC_map {β γ : Type} (f : Int → Int) (c : Int) (t : List Int) (k : List Int → Option β) (k' : List Int → Option γ) (m : β → γ) (hk : ∀ t, k' t = (k t).map m) : setC f γ c t k' = (setC f β c t k).map m := by
  unfold setC
  split
  · exact hk _
  · rfl
theorem touM_eq {α : Type} (N : Nat) (bf bt cf ct w : Int) (dom hit : Int → Bool) (f : Int → Int) (t0 : List Int) (K : List Int → Option α) : touM N bf bt cf ct w dom hit f t0 K = touL N bf bt cf ct w dom hit (setC f) t0 K := by
  unfold touM touL
  refine (loop_conj swpE (id : α → α) _ _ (fun z => ?_) _ _ (fun id x => ?_) N (bf, t0)).trans (by rw [Option.map_id]; rfl)
  · simp only [swpE]
    cases decide (z.1 ≤ bt)
    · rfl
    · simp only [cond_true]
      refine loop_conj swpE (LRes.map swpE (id : α → α)) _ _ (fun v => ?_) _ _ (fun id x => ?_) N (cf, z.2)
      · simp only [swpE]
        cases decide (v.1 ≤ ct)
        · rfl
        · cases dom (IntKind.i64.wrap (IntKind.i64.wrap (z.1 * w) + v.1))
          · rfl
          · cases hit (IntKind.i64.wrap (IntKind.i64.wrap (z.1 * w) + v.1))
            · rfl
            · simp only [cond_true]
              refine setC_map f _ _ _ _ (LRes.map swpE (LRes.map swpE id)) fun t => rfl
      · simp only [swpE]
        split <;> rfl
  · simp only [swpE]
    split
    · rw [Option.map_id]; rfl
    · rfl
theorem tou_list {α : Type} (cx cy sd w h : Int) (pb po : List Int) (x y u v : Int) (hb : twB cx cy sd w h pb po x y u v = true) (xs : List Int) (hx : (xs.length : Int) = w * h) (f : Int → Int) (K : List Int → Option α) {N : Nat} (hN : 300 < N) :
    touM N (bdF cy sd h y v) (bdT cy sd h y v) (bdF cx sd w x u) (bdT cx sd w x u) w (isC cx cy sd w h pb po x y u v) (toB cx cy sd w x y u v) f xs K = K (chgL (fun n => toB cx cy sd w x y u v n) f xs) := by
  have hb' := hb
  simp only [twB, Bool.and_eq_true] at hb'
  have g := ice_is _ _ _ _ _ _ _ hb'.1
  obtain ⟨c1, c2⟩ := cels_le g.fw g.fh
  have hcl : cels w h = xs.length := by omega
  rw [touM_eq, tou_ice cx cy sd w h pb po x y u v hb (setC f) (updL f) xs (fun β n k hn => ?_) K hN, hcl, fold_chg]
  have hl := fold_len (fun n => toB cx cy sd w x y u v n) f xs n
  unfold setC
  rw [if_pos ⟨by omega, by omega⟩, if_pos ⟨by omega, by omega⟩, Int.toNat_natCast]
  rfl
def pasB (cx cy sd w h : Int) (pb po : List Int) (fl ke sw be we : Int) (x y u v : Int) : Bool := iceB cx cy sd w h pb po && graB fl ke sw be we && (plcB x y && plcB u v)
theorem list_ok {xs : List Int} {w h : Int} (hw : 1 ≤ w ∧ w ≤ 256) (hh : 1 ≤ h ∧ h ≤ 256) (hx : (xs.length : Int) = w * h) : 0 < xs.length ∧ xs.length ≤ 65536 := by
  have a := mul_in (a := w) (b := h) (A := 256) (B := 256) ⟨by omega, by omega⟩ ⟨by omega, by omega⟩
  have b : 1 * 1 ≤ w * h := Int.mul_le_mul hw.1 hh.1 (by omega) (by omega)
  omega
theorem ipass_fin (cx cy sd w h : Int) (pb po : List Int) (fl ke sw be we : Int) (x y u v : Int) (hs : ∀ qSm ∈ ([.agg [.int .i64 cx, .int .i64 cy, .int .i64 sd, .int .i64 w, .int .i64 h, .ro (.int .i64) pb, .ro (.int .i64) po], .agg [.int .i64 fl, .int .i64 ke, .int .i64 sw, .int .i64 be, .int .i64 we], .agg [.int .i64 x, .int .i64 y], .agg [.int .i64 u, .int .i64 v]] : List AVal), Sm qSm) : ∃ N n, ∀ α (k : AOut → Option α), evFn real tab ((twY fsI9 spL).env real tab N n) N Tryz.f72 α [.agg [.int .i64 cx, .int .i64 cy, .int .i64 sd, .int .i64 w, .int .i64 h, .ro (.int .i64) pb, .ro (.int .i64) po], .agg [.int .i64 fl, .int .i64 ke, .int .i64 sw, .int .i64 be, .int .i64 we], .agg [.int .i64 x, .int .i64 y], .agg [.int .i64 u, .int .i64 v]] k = bif pasB cx cy sd w h pb po fl ke sw be we x y u v then k (icO cx cy sd w h (chgL (fun i => toB cx cy sd w x y u v i) (fun i => wornV i we) pb) po) else k (icN) := by
  refine ⟨301, 8, fun α k => (ipass_text 301 0 α cx cy sd w h pb po fl ke sw be we x y u v k).trans ?_⟩
  rw [er2_0, er2_0, any_off2]
  unfold pasB
  cases hI : iceB cx cy sd w h pb po
  · rfl
  cases hG : graB fl ke sw be we
  · rfl
  cases hP : plcB x y && plcB u v
  · rfl
  have g := ice_is _ _ _ _ _ _ _ hI
  have hb : twB cx cy sd w h pb po x y u v = true := by unfold twB; rw [hI, hP]; rfl
  have l1 := list_ok g.fw g.fh g.pl
  have l2 := list_ok g.fw g.fh g.ol
  have hP' := hP
  simp only [Bool.and_eq_true, plc_iff] at hP'
  obtain ⟨hp, hq⟩ := hP'
  rw [bd_of g.fc.1 g.fs g.fw hp.1 hq.1, bd_of g.fc.2 g.fs g.fh hp.2 hq.2]
  simp only [Bool.not_true, Bool.not_false, Bool.and_self, cond_false, cond_true]
  rw [if_pos l1.1, if_pos (by simp [room]; omega), List.nil_append, tou_list cx cy sd w h pb po x y u v hb pb g.pl _ _ (by omega), decide_eq_true l2.1, decide_eq_true l2.2]
  rfl
noncomputable def ipassS : Fsp := fun _ args k => match args with
  | [.agg [.int .i64 cx, .int .i64 cy, .int .i64 sd, .int .i64 w, .int .i64 h, .ro (.int .i64) pb, .ro (.int .i64) po], .agg [.int .i64 fl, .int .i64 ke, .int .i64 sw, .int .i64 be, .int .i64 we], .agg [.int .i64 x, .int .i64 y], .agg [.int .i64 u, .int .i64 v]] => bif pasB cx cy sd w h pb po fl ke sw be we x y u v then k (icO cx cy sd w h (chgL (fun i => toB cx cy sd w x y u v i) (fun i => wornV i we) pb) po) else k (icN)
  | _ => none
theorem ipassS_ok : FspOk Tryz.prog 72 ipassS := tower_Y fsI9_ok spL_ok ⟨Tryz.func72, fun _ _ => by kernel_rfl⟩ (by intro α args k; unfold ipassS; split <;> simp only [cond_bind, Option.bind_some, Option.bind_none]) fun args out hSm hEq => by
  unfold ipassS at hEq
  split at hEq
  · rename_i cx cy sd w h pb po fl ke sw be we x y u v
    obtain ⟨N, n, e⟩ := ipass_fin cx cy sd w h pb po fl ke sw be we x y u v hSm
    exact ⟨N, n, (e AOut some).trans hEq⟩
  · cases hEq
theorem isweep_fin (cx cy sd w h : Int) (pb po : List Int) (x y u v b : Int) (hs : ∀ qSm ∈ ([.agg [.int .i64 cx, .int .i64 cy, .int .i64 sd, .int .i64 w, .int .i64 h, .ro (.int .i64) pb, .ro (.int .i64) po], .agg [.int .i64 x, .int .i64 y], .agg [.int .i64 u, .int .i64 v], .int .i64 b] : List AVal), Sm qSm) : ∃ N n, ∀ α (k : AOut → Option α), evFn real tab ((twY fsI9 spL).env real tab N n) N Tryz.f73 α [.agg [.int .i64 cx, .int .i64 cy, .int .i64 sd, .int .i64 w, .int .i64 h, .ro (.int .i64) pb, .ro (.int .i64) po], .agg [.int .i64 x, .int .i64 y], .agg [.int .i64 u, .int .i64 v], .int .i64 b] k = bif twB cx cy sd w h pb po x y u v && grnB b then k (icO cx cy sd w h pb (chgL (fun i => toB cx cy sd w x y u v i) (fun i => moreV i b) po)) else k (icN) := by
  refine ⟨301, 8, fun α k => (isweep_text 301 0 α cx cy sd w h pb po x y u v b k).trans ?_⟩
  rw [celE_le, er2_0, any_off2]
  unfold grnB
  cases hb : twB cx cy sd w h pb po x y u v
  · have hb' := hb
    unfold twB at hb'
    revert hb'
    cases iceB cx cy sd w h pb po <;> cases plcB x y && plcB u v <;> intro hb' <;> first | rfl | cases hb'
  have hb' := hb
  simp only [twB, Bool.and_eq_true] at hb'
  obtain ⟨hI, hP⟩ := hb'
  have g := ice_is _ _ _ _ _ _ _ hI
  have l1 := list_ok g.fw g.fh g.pl
  have l2 := list_ok g.fw g.fh g.ol
  have hp := plc_iff.1 hP.1
  have hq := plc_iff.1 hP.2
  rw [hI, hP.1, hP.2, bd_of g.fc.1 g.fs g.fw hp.1 hq.1, bd_of g.fc.2 g.fs g.fh hp.2 hq.2]
  cases decide (0 ≤ b)
  · rfl
  cases decide (b ≤ 1000)
  · rfl
  simp only [Bool.not_true, Bool.not_false, Bool.and_self, cond_false, cond_true]
  rw [if_pos l2.1, if_pos (by simp [room]; omega), List.nil_append, tou_list cx cy sd w h pb po x y u v hb po g.ol _ _ (by omega), decide_eq_true l1.1, decide_eq_true l1.2]
  rfl
noncomputable def isweepS : Fsp := fun _ args k => match args with
  | [.agg [.int .i64 cx, .int .i64 cy, .int .i64 sd, .int .i64 w, .int .i64 h, .ro (.int .i64) pb, .ro (.int .i64) po], .agg [.int .i64 x, .int .i64 y], .agg [.int .i64 u, .int .i64 v], .int .i64 b] => bif twB cx cy sd w h pb po x y u v && grnB b then k (icO cx cy sd w h pb (chgL (fun i => toB cx cy sd w x y u v i) (fun i => moreV i b) po)) else k (icN)
  | _ => none
theorem isweepS_ok : FspOk Tryz.prog 73 isweepS := tower_Y fsI9_ok spL_ok ⟨Tryz.func73, fun _ _ => by kernel_rfl⟩ (by intro α args k; unfold isweepS; split <;> simp only [cond_bind, Option.bind_some, Option.bind_none]) fun args out hSm hEq => by
  unfold isweepS at hEq
  split at hEq
  · rename_i cx cy sd w h pb po x y u v b
    obtain ⟨N, n, e⟩ := isweep_fin cx cy sd w h pb po x y u v b hSm
    exact ⟨N, n, (e AOut some).trans hEq⟩
  · cases hEq
theorem fad_list {α : Type} (xs : List Int) (hx : xs.length ≤ 65536) {wh : Int} (hw : (xs.length : Int) = wh) (f : Int → Int) (K : Nat → List Int × Int × Unit → Option α) {N : Nat} (hN : xs.length < N) :
    afterL (iterL N (fadF wh f) (xs, 0, ())) K = K 0 (chgL (fun _ => true) f xs, (xs.length : Int), ()) := by
  have key := count_loop (f := fadF wh f) (K := K) (fun i : Nat => (foldC (fun _ => true) (updL f) xs i, (i : Int), ())) xs.length (b := 0) (y := (foldC (fun _ => true) (updL f) xs xs.length, (xs.length : Int), ())) (fun i hi => ?_) ?_ hN
  · rw [fold_chg] at key; exact key
  · unfold fadF
    rw [decide_eq_true (show (i : Int) < wh by omega), cond_true, setK_eq f hi (fold_len ..) hx]
    rfl
  · unfold fadF
    rw [decide_eq_false (show ¬ (xs.length : Int) < wh by omega)]
    rfl
noncomputable def ifadeS : Fsp := fun _ args k => match args with
  | [.agg [.int .i64 cx, .int .i64 cy, .int .i64 sd, .int .i64 w, .int .i64 h, .ro (.int .i64) pb, .ro (.int .i64) po], .int .i64 b] => bif iceB cx cy sd w h pb po && grnB b then k (icO cx cy sd w h pb (chgL (fun _ => true) (fun i => wornV i b) po)) else k (icN)
  | _ => none
def bxvB (cx cy sd w h : Int) (pb po : List Int) (x y u v : Int) : Bool := iceB cx cy sd w h pb po && (plcB x y && plcB u v) && (decide (x ≤ u) && decide (y ≤ v))
def sprB (w tn c : Int) : Bool := (c % w + c / w + tn) % 2 == 0
theorem spyK_eq {α : Type} {w tn b : Int} (hw : 1 ≤ w ∧ w ≤ 256) (ht : 0 ≤ tn ∧ tn ≤ 1) {t : List Int} {i n : Nat} (hi : i < n) (hl : t.length = n) (hn : n ≤ 65536) : spyK (α := α) w tn b (t, (i : Int), ()) = bif sprB w tn i then some (.cont (updL (fun z => moreV z b) i t, ((i + 1 : Nat) : Int), ())) else some (.cont (t, ((i + 1 : Nat) : Int), ())) := by
  have a := Int.emod_nonneg (i : Int) (show w ≠ 0 by omega)
  have b' := Int.emod_lt_of_pos (i : Int) (show 0 < w by omega)
  have c := Int.ediv_nonneg (show (0 : Int) ≤ i by omega) (show 0 ≤ w by omega)
  have d : (i : Int) / w ≤ i := Int.ediv_le_self _ (by omega)
  unfold spyK sprB
  simp only
  rw [if_neg (by omega), if_neg (by omega), setK_eq _ hi hl hn, Int.tmod_eq_emod_of_nonneg (show (0 : Int) ≤ i by omega), tdiv_pos (by omega), i64_in ((i : Int) / w) (by omega), i64_in ((i : Int) % w + (i : Int) / w) (by omega), i64_in ((i : Int) % w + (i : Int) / w + tn) (by omega), Int.tmod_eq_emod_of_nonneg (by omega)]
  show (bif _ then _ else some (LRes.cont (t, IntKind.i64.wrap ((i : Int) + 1), ()))) = _
  rw [i64_in ((i : Int) + 1) (by omega)]
  rfl
noncomputable def isprayS : Fsp := fun _ args k => match args with
  | [.agg [.int .i64 cx, .int .i64 cy, .int .i64 sd, .int .i64 w, .int .i64 h, .ro (.int .i64) pb, .ro (.int .i64) po], .agg [.int .i64 x, .int .i64 y], .agg [.int .i64 u, .int .i64 v], .int .i64 b, .int .i64 tn] => bif bxvB cx cy sd w h pb po x y u v && (grnB b && (decide (0 ≤ tn) && decide (tn ≤ 1))) then k (icO cx cy sd w h (chgL (fun i => inBx cx cy sd w x y u v i && sprB w tn i) (fun i => moreV i b) pb) po) else k (icN)
  | _ => none
def meaS (hit : Nat → Bool) (pb : List Int) (n : Nat) : Int := foldC hit (fun i (t : Int) => t + pb.getD i 0) 0 n
def meaN (hit : Nat → Bool) (n : Nat) : Int := foldC hit (fun _ (t : Int) => t + 1) 0 n
theorem mea_in (hit : Nat → Bool) {pb : List Int} (hg : pb.all grnB = true) : ∀ n : Nat, (0 ≤ meaS hit pb n ∧ meaS hit pb n ≤ 1000 * n) ∧ 0 ≤ meaN hit n ∧ meaN hit n ≤ n
  | 0 => by simp [meaS, meaN, foldC]
  | n + 1 => by
    have ih := mea_in hit hg n
    have a := grn_at hg n
    unfold meaS meaN at *
    simp only [foldC]
    cases hit n <;> simp only [cond_true, cond_false] <;> omega
noncomputable def imeanS : Fsp := fun _ args k => match args with
  | [.agg [.int .i64 cx, .int .i64 cy, .int .i64 sd, .int .i64 w, .int .i64 h, .ro (.int .i64) pb, .ro (.int .i64) po], .agg [.int .i64 x, .int .i64 y], .agg [.int .i64 u, .int .i64 v]] => bif bxvB cx cy sd w h pb po x y u v then k (i3 (meaS (fun i => inBx cx cy sd w x y u v i) pb (cels w h)) (meaN (fun i => inBx cx cy sd w x y u v i) (cels w h)) 0) else k (i3 0 0 2)
  | _ => none
noncomputable def iscrapeS : Fsp := fun _ args k => match args with
  | [.agg [.int .i64 cx, .int .i64 cy, .int .i64 sd, .int .i64 w, .int .i64 h, .ro (.int .i64) pb, .ro (.int .i64) po], .agg [.int .i64 x, .int .i64 y], .agg [.int .i64 u, .int .i64 v], .int .i64 b] => bif bxvB cx cy sd w h pb po x y u v && grnB b then k (icO cx cy sd w h (chgL (fun i => inBx cx cy sd w x y u v i && true) (fun i => capV i b) pb) (chgL (fun i => inBx cx cy sd w x y u v i && true) (fun _ => 0) po)) else k (icN)
  | _ => none
noncomputable def fsI11 : FuncId → Option Fsp := fun g =>
  if g = 72 then some ipassS else
  if g = 73 then some isweepS else
  fsI9 g
theorem fsI11_ok : FsOk fsI11 :=
  fs_cons ipassS_ok <|
  fs_cons isweepS_ok <|
  fsI9_ok
end Go.Proofs.YtgpljldfbhkdlaaGreat

namespace Go.Proofs.YtgpljldfbhkdlaaGreat
open Go.RowKit
abbrev St2 : Type := List Int × List Int × Int × Unit
section
variable {σ α : Type}
def bxG (cx cy sd w x y u v : Int) (bd gc : σ → Int) (nx : σ → σ) (hk : σ → Option (LRes σ α)) (z : σ) : Option (LRes σ α) :=
  bif decide (gc z < bd z) then
    if w = 0 then none else if w = 0 then none
    else
      bif decide (lwX cx sd w (gc z) ≥ x) then
        bif decide (lwY cy sd w (gc z) ≥ y) then
          bif decide (hgX cx sd w (gc z) ≤ u) then
            bif decide (hgY cy sd w (gc z) ≤ v) then hk z
            else some (LRes.cont (nx z))
          else some (LRes.cont (nx z))
        else some (LRes.cont (nx z))
      else some (LRes.cont (nx z))
  else some (LRes.brk 0 z)
theorem bxG_loop (cx cy sd w h : Int) (pb po : List Int) (x y u v : Int) (g : IceIs cx cy sd w h pb po) (bd gc : σ → Int) (nx : σ → σ) (hk : σ → Option (LRes σ α)) (st : Nat → σ) (h0 : ∀ i, gc (st i) = i) (hb : ∀ i, bd (st i) = w * h) (h1 : ∀ i, i < cels w h → inBx cx cy sd w x y u v i = true → hk (st i) = some (.cont (st (i + 1)))) (h2 : ∀ i, i < cels w h → inBx cx cy sd w x y u v i = false → nx (st i) = st (i + 1)) (K : Nat → σ → Option α) {N : Nat} (hN : cels w h < N) :
    afterL (iterL N (bxG cx cy sd w x y u v bd gc nx hk) (st 0)) K = K 0 (st (cels w h)) := by
  obtain ⟨c1, c2⟩ := cels_le g.fw g.fh
  refine Eq.trans ?_ (bx_loop cx cy sd w h pb po x y u v g gc nx hk st h0 h1 h2 K hN)
  have gw := g.fw
  refine (count_loop (f := bxG cx cy sd w x y u v bd gc nx hk) (K := K) st (cels w h) (b := 0) (y := st (cels w h)) (fun i hi => ?_) ?_ hN).trans (bx_loop cx cy sd w h pb po x y u v g gc nx hk st h0 h1 h2 K hN).symm
  · have key : bxG cx cy sd w x y u v bd gc nx hk (st i) = bxF cx cy sd w h x y u v gc nx hk (st i) := by
      unfold bxG bxF
      rw [hb i, i64_in (w * h) (by omega)]
    rw [key]
    obtain ⟨e1, e2, e3, e4⟩ := lw_eq g.fc g.fs g.fw g.fh (show (0 : Int) ≤ i by omega) (show (i : Int) < w * h by omega)
    unfold bxF
    rw [h0 i, e1, e2, e3, e4, i64_in (w * h) (by omega), decide_eq_true (show (i : Int) < w * h by omega), cond_true, if_neg (by omega), if_neg (by omega)]
    have a1 := h1 i hi
    have a2 := h2 i hi
    show (bif decide (x ≤ cx + (i : Int) % w * sd) then bif decide (y ≤ cy + (i : Int) / w * sd) then bif decide (cx + (i : Int) % w * sd + sd ≤ u) then bif decide (cy + (i : Int) / w * sd + sd ≤ v) then _ else _ else _ else _ else _) = _
    unfold inBx at a1 a2
    revert a1 a2
    cases decide (x ≤ cx + (i : Int) % w * sd) <;> cases decide (y ≤ cy + (i : Int) / w * sd) <;> cases decide (cx + (i : Int) % w * sd + sd ≤ u) <;> cases decide (cy + (i : Int) / w * sd + sd ≤ v) <;> intro a1 a2 <;> first | exact a1 rfl | (simp only [cond_true, cond_false]; rw [a2 rfl])
  · unfold bxG
    rw [h0, hb, decide_eq_false (by omega)]
    rfl
end
abbrev nx2 : St2 → St2 := fun z => (z.1, z.2.1, IntKind.i64.wrap (z.2.2.1 + 1), ())
def in2 {β : Type} (c : Int) (l : List Int) (r : Option β) : Option β := if 0 ≤ c ∧ c < (l.length : Int) then r else none
theorem in2_pos {β : Type} {c : Int} {l : List Int} (h : 0 ≤ c ∧ c < (l.length : Int)) (r : Option β) : in2 c l r = r := if_pos h
def scrK {α : Type} (b : Int) (z : St2) : Option (LRes St2 α) :=
  in2 z.2.2.1 z.1 (in2 z.2.2.1 z.1 (in2 z.2.2.1 z.2.1 (some (LRes.cont (z.1.set z.2.2.1.toNat (capV (z.1.getD z.2.2.1.toNat 0) b), z.2.1.set z.2.2.1.toNat 0, IntKind.i64.wrap (z.2.2.1 + 1), ())))))
def spK2 {α : Type} (w tn b : Int) (z : St2) : Option (LRes St2 α) :=
  if w = 0 then none else if w = 0 then none
  else bif (IntKind.i64.wrap (IntKind.i64.wrap (z.2.2.1.tmod w + IntKind.i64.wrap (z.2.2.1.tdiv w)) + tn)).tmod 2 == 0 then
    in2 z.2.2.1 z.1 (in2 z.2.2.1 z.1 (some (LRes.cont (z.1.set z.2.2.1.toNat (moreV (z.1.getD z.2.2.1.toNat 0) b), z.2.1, IntKind.i64.wrap (z.2.2.1 + 1), ()))))
  else some (LRes.cont (nx2 z))
def rfdF {α : Type} (b : Int) (z : St2) : Option (LRes St2 α) :=
  bif decide (z.2.2.1 < (z.2.1.length : Int)) then
    in2 z.2.2.1 z.2.1 (in2 z.2.2.1 z.2.1 (some (LRes.cont (z.1, z.2.1.set z.2.2.1.toNat (wornV (z.2.1.getD z.2.2.1.toNat 0) b), IntKind.i64.wrap (z.2.2.1 + 1), ()))))
  else some (LRes.brk 0 (z.1, z.2.1, z.2.2.1, ()))
def rmeK {α : Type} (pb : List Int) (z : Int × Int × Int × Unit) : Option (LRes (Int × Int × Int × Unit) α) :=
  in2 z.2.2.1 pb (some (LRes.cont (IntKind.i64.wrap (z.1 + pb.getD z.2.2.1.toNat 0), IntKind.i64.wrap (z.2.1 + 1), IntKind.i64.wrap (z.2.2.1 + 1), ())))
def cop2 {α : Type} (pb po : List Int) (r : Option α) : Option α := if ((List.nil (α := Int)).length + pb.length) * 8 ≤ room then if ((List.nil (α := Int)).length + po.length) * 8 ≤ room then r else none else none
theorem cop2_pos {α : Type} {pb po : List Int} (h1 : pb.length ≤ 65536) (h2 : po.length ≤ 65536) (r : Option α) : cop2 pb po r = r := by
  unfold cop2
  rw [if_pos (by simp [room]; omega), if_pos (by simp [room]; omega)]
set_option maxRecDepth 100000 in
theorem rfade_text (N n0 : Nat) (α : Type) (cx cy sd w h : Int) (pb po : List Int) (b : Int) (k : AOut → Option α) : evFn real tab ((twY fnR1 spL).env real tab N (n0 + 8)) N Tryz.f74 α [.agg [.int .i64 cx, .int .i64 cy, .int .i64 sd, .int .i64 w, .int .i64 h, .ro (.int .i64) pb, .ro (.int .i64) po], .int .i64 b] k =
 bif !iceB cx cy sd w h pb po then k icN else bif decide (0 ≤ b) then bif !decide (b ≤ 1000) then k icN else cop2 pb po (afterL (iterL N (rfdF b) ((List.nil (α := Int)) ++ pb,
 (List.nil (α := Int)) ++ po, 0, ())) fun id z => if id = 0 then k (icO cx cy sd w h z.1 z.2.1) else none) else k icN := by kernel_rfl
theorem rfade_fin (cx cy sd w h : Int) (pb po : List Int) (b : Int) (hs : ∀ qSm ∈ ([.agg [.int .i64 cx, .int .i64 cy, .int .i64 sd, .int .i64 w, .int .i64 h, .ro (.int .i64) pb, .ro (.int .i64) po], .int .i64 b] : List AVal), Sm qSm) : ∃ N n, ∀ α (k : AOut → Option α), evFn real tab ((twY fnR1 spL).env real tab N n) N Tryz.f74 α [.agg [.int .i64 cx, .int .i64 cy, .int .i64 sd, .int .i64 w, .int .i64 h, .ro (.int .i64) pb, .ro (.int .i64) po], .int .i64 b] k = bif iceB cx cy sd w h pb po && grnB b then k (icO cx cy sd w h pb (chgL (fun _ => true) (fun i => wornV i b) po)) else k (icN) := by
  refine ⟨65537, 8, fun α k => (rfade_text 65537 0 α cx cy sd w h pb po b k).trans ?_⟩
  unfold grnB
  cases hI : iceB cx cy sd w h pb po
  · rfl
  cases decide (0 ≤ b)
  · rfl
  cases decide (b ≤ 1000)
  · rfl
  have g := ice_is _ _ _ _ _ _ _ hI
  have l1 := list_ok g.fw g.fh g.pl
  have l2 := list_ok g.fw g.fh g.ol
  simp only [Bool.not_true, Bool.and_self, cond_false, cond_true]
  rw [cop2_pos l1.2 l2.2, List.nil_append, List.nil_append]
  have key := count_loop (f := rfdF b) (K := fun id (z : St2) => if id = 0 then k (icO cx cy sd w h z.1 z.2.1) else none) (fun i : Nat => (pb, foldC (fun _ => true) (updL fun i => wornV i b) po i, (i : Int), ())) po.length (b := 0) (y := (pb, foldC (fun _ => true) (updL fun i => wornV i b) po po.length, (po.length : Int), ())) (fun i hi => ?_) ?_ (N := 65537) (by omega)
  · rw [fold_chg, if_pos rfl] at key; exact key
  · have hl := fold_len (fun _ => true) (fun i => wornV i b) po i
    unfold rfdF
    simp only
    rw [decide_eq_true (show (i : Int) < ((foldC (fun _ => true) (updL fun i => wornV i b) po i).length : Int) by omega), cond_true, in2_pos ⟨by omega, by omega⟩, in2_pos ⟨by omega, by omega⟩, i64_in _ (by omega), Int.toNat_natCast]
    rfl
  · have hl := fold_len (fun _ => true) (fun i => wornV i b) po po.length
    unfold rfdF
    simp only
    rw [decide_eq_false (by omega)]
    rfl
noncomputable def rfadeS : Fsp := fun _ args k => match args with
  | [.agg [.int .i64 cx, .int .i64 cy, .int .i64 sd, .int .i64 w, .int .i64 h, .ro (.int .i64) pb, .ro (.int .i64) po], .int .i64 b] => bif iceB cx cy sd w h pb po && grnB b then k (icO cx cy sd w h pb (chgL (fun _ => true) (fun i => wornV i b) po)) else k (icN)
  | _ => none
theorem rfadeS_ok : FspOk Tryz.prog 74 rfadeS := tower_Y fnR1_ok spL_ok ⟨Tryz.func74, fun _ _ => by kernel_rfl⟩ (by intro α args k; unfold rfadeS; split <;> simp only [cond_bind, Option.bind_some, Option.bind_none]) fun args out hSm hEq => by
  unfold rfadeS at hEq
  split at hEq
  · rename_i cx cy sd w h pb po b
    obtain ⟨N, n, e⟩ := rfade_fin cx cy sd w h pb po b hSm
    exact ⟨N, n, (e AOut some).trans hEq⟩
  · cases hEq
noncomputable def rscrapeS : Fsp := fun _ args k => match args with
  | [.agg [.int .i64 cx, .int .i64 cy, .int .i64 sd, .int .i64 w, .int .i64 h, .ro (.int .i64) pb, .ro (.int .i64) po], .agg [.int .i64 x, .int .i64 y], .agg [.int .i64 u, .int .i64 v], .int .i64 b] => bif bxvB cx cy sd w h pb po x y u v && grnB b then k (icO cx cy sd w h (chgL (fun i => inBx cx cy sd w x y u v i && true) (fun i => capV i b) pb) (chgL (fun i => inBx cx cy sd w x y u v i && true) (fun _ => 0) po)) else k (icN)
  | _ => none
noncomputable def rsprayS : Fsp := fun _ args k => match args with
  | [.agg [.int .i64 cx, .int .i64 cy, .int .i64 sd, .int .i64 w, .int .i64 h, .ro (.int .i64) pb, .ro (.int .i64) po], .agg [.int .i64 x, .int .i64 y], .agg [.int .i64 u, .int .i64 v], .int .i64 b, .int .i64 tn] => bif bxvB cx cy sd w h pb po x y u v && (grnB b && (decide (0 ≤ tn) && decide (tn ≤ 1))) then k (icO cx cy sd w h (chgL (fun i => inBx cx cy sd w x y u v i && sprB w tn i) (fun i => moreV i b) pb) po) else k (icN)
  | _ => none
noncomputable def rmeanS : Fsp := fun _ args k => match args with
  | [.agg [.int .i64 cx, .int .i64 cy, .int .i64 sd, .int .i64 w, .int .i64 h, .ro (.int .i64) pb, .ro (.int .i64) po], .agg [.int .i64 x, .int .i64 y], .agg [.int .i64 u, .int .i64 v]] => bif bxvB cx cy sd w h pb po x y u v then k (i3 (meaS (fun i => inBx cx cy sd w x y u v i) pb (cels w h)) (meaN (fun i => inBx cx cy sd w x y u v i) (cels w h)) 0) else k (i3 0 0 2)
  | _ => none
noncomputable def fnR7 : FuncId → Option Fsp := fun g =>
  if g = 74 then some rfadeS else
  fnR1 g
theorem fnR7_ok : FsOk fnR7 :=
  fs_cons rfadeS_ok <|
  fnR1_ok
end Go.Proofs.YtgpljldfbhkdlaaGreat

namespace Go.Proofs.YtgpljldfbhkdlaaGreat
open Go.RowKit
def SimV (u v : AVal) : Prop := ∀ (h : List ABlk) (g : Gh) (w : World) (x : Value), Rep h g w u x → Rep h g w v x
theorem SimV.refl (u : AVal) : SimV u u := fun _ _ _ _ r => r
theorem simV_nils (e : Sh) : SimV .nils (.ro e []) := fun _ _ _ _ r => Sim.rep (.inr ⟨rfl, e, rfl⟩) r
def SimVs : List AVal → List AVal → Prop
  | [], [] => True
  | a :: l, b :: m => SimV a b ∧ SimVs l m
  | _, _ => False
theorem simVs_at : ∀ {l m : List AVal}, SimVs l m → l.length = m.length ∧ ∀ (j : Nat) a b, l[j]? = some a → m[j]? = some b → SimV a b
  | [], [], _ => ⟨rfl, fun j a b ha => by simp at ha⟩
  | a :: l, b :: m, h => by
    obtain ⟨h1, h2⟩ := simVs_at h.2
    refine ⟨by simp [h1], fun j u v hu hv => ?_⟩
    cases j with
    | zero => cases hu; cases hv; exact h.1
    | succ j => exact h2 j u v (by simpa using hu) (by simpa using hv)
  | [], _ :: _, h => by cases h
  | _ :: _, [], h => by cases h
theorem simV_agg {l m : List AVal} (h : SimVs l m) : SimV (.agg l) (.agg m) := fun _ _ _ x r => by
  obtain ⟨h1, h2⟩ := simVs_at h
  cases r with
  | agg _ arr hl hr => exact .agg m arr (by omega) fun j c y hc hy => h2 j _ c (List.getElem?_eq_getElem (by have := (List.getElem?_eq_some_iff.1 hc).1; omega)) hc _ _ _ _ (hr j _ y (List.getElem?_eq_getElem (by have := (List.getElem?_eq_some_iff.1 hc).1; omega)) hy)
theorem simV_tup {l m : List AVal} (h : SimVs l m) : SimV (.tup l) (.tup m) := fun _ _ _ x r => by
  obtain ⟨h1, h2⟩ := simVs_at h
  cases r with
  | tup _ arr hl hr => exact .tup m arr (by omega) fun j c y hc hy => h2 j _ c (List.getElem?_eq_getElem (by have := (List.getElem?_eq_some_iff.1 hc).1; omega)) hc _ _ _ _ (hr j _ y (List.getElem?_eq_getElem (by have := (List.getElem?_eq_some_iff.1 hc).1; omega)) hy)
theorem fsp_sim {P : Program} {f : FuncId} {S S' : Fsp} (h : FspOk P f S) (hn : ∀ (α : Type) args (k : AOut → Option α), S' α args k = (S' AOut args some).bind k)
    (hs : ∀ args out, S' AOut args some = some out → ∃ v v', out = .ret v' ∧ S AOut args some = some (.ret v) ∧ SimV v v') : FspOk P f S' where
  enter := h.enter
  nat := hn
  calls := fun args out hout M w cargs hM hl hr => by
    obtain ⟨v, v', rfl, h1, h2⟩ := hs args out hout
    refine (h.calls args (.ret v) h1 M w cargs hM hl hr).mono fun e w' hp => ?_
    obtain ⟨M', m1, m2, m3, hb, x, he, hx⟩ := hp
    exact ⟨M', m1, m2, m3, hb, x, he, h2 _ _ _ _ hx⟩
def selI (c : Bool) (x : Int) : Int := bif c then x else 0
def selL (c : Bool) (l : List Int) : List Int := bif c then l else []
def icT (c : Bool) (cx cy sd w h : Int) (l1 l2 : List Int) : AOut := .ret (.tup [.agg [.int .i64 (selI c cx), .int .i64 (selI c cy), .int .i64 (selI c sd), .int .i64 (selI c w), .int .i64 (selI c h), .ro (.int .i64) (selL c l1), .ro (.int .i64) (selL c l2)], .int .i64 (er2 c)])
theorem ic_tot (c : Bool) (cx cy sd w h : Int) (l1 l2 : List Int) : ∃ v v', icT c cx cy sd w h l1 l2 = .ret v' ∧ (bif c then some (icO cx cy sd w h l1 l2) else some icN) = some (.ret v) ∧ SimV v v' := by
  cases c
  · refine ⟨_, _, rfl, rfl, simV_tup ⟨simV_agg ⟨.refl _, .refl _, .refl _, .refl _, .refl _, simV_nils _, simV_nils _, trivial⟩, .refl _, trivial⟩⟩
  · exact ⟨_, _, rfl, rfl, .refl _⟩
def i3T (c : Bool) (a b : Int) : AOut := i3 (selI c a) (selI c b) (er2 c)
theorem i3_tot (c : Bool) (a b : Int) : ∃ v v', i3T c a b = .ret v' ∧ (bif c then some (i3 a b 0) else some (i3 0 0 2)) = some (.ret v) ∧ SimV v v' := by
  cases c
  · exact ⟨_, _, rfl, rfl, .refl _⟩
  · exact ⟨_, _, rfl, rfl, .refl _⟩
noncomputable def ipassTS : Fsp := fun _ args k => match args with
  | [.agg [.int .i64 cx, .int .i64 cy, .int .i64 sd, .int .i64 w, .int .i64 h, .ro (.int .i64) pb, .ro (.int .i64) po], .agg [.int .i64 fl, .int .i64 ke, .int .i64 sw, .int .i64 be, .int .i64 we], .agg [.int .i64 x, .int .i64 y], .agg [.int .i64 u, .int .i64 v]] => k (icT (pasB cx cy sd w h pb po fl ke sw be we x y u v) cx cy sd w h (chgL (fun i => toB cx cy sd w x y u v i) (fun i => wornV i we) pb) po)
  | _ => none
theorem ipassTS_ok : FspOk Tryz.prog 72 ipassTS := fsp_sim ipassS_ok (by intro α args k; unfold ipassTS; split <;> rfl) fun args out hq => by
  unfold ipassTS at hq
  split at hq
  · rename_i cx cy sd w h pb po fl ke sw be we x y u v
    cases hq
    obtain ⟨v1, v2, e1, e2, e3⟩ := ic_tot (pasB cx cy sd w h pb po fl ke sw be we x y u v) cx cy sd w h (chgL (fun i => toB cx cy sd w x y u v i) (fun i => wornV i we) pb) po
    refine ⟨v1, v2, e1, ?_, e3⟩
    rw [← e2]
    rfl
  · cases hq
noncomputable def isweepTS : Fsp := fun _ args k => match args with
  | [.agg [.int .i64 cx, .int .i64 cy, .int .i64 sd, .int .i64 w, .int .i64 h, .ro (.int .i64) pb, .ro (.int .i64) po], .agg [.int .i64 x, .int .i64 y], .agg [.int .i64 u, .int .i64 v], .int .i64 b] => k (icT (twB cx cy sd w h pb po x y u v && grnB b) cx cy sd w h pb (chgL (fun i => toB cx cy sd w x y u v i) (fun i => moreV i b) po))
  | _ => none
theorem isweepTS_ok : FspOk Tryz.prog 73 isweepTS := fsp_sim isweepS_ok (by intro α args k; unfold isweepTS; split <;> rfl) fun args out hq => by
  unfold isweepTS at hq
  split at hq
  · rename_i cx cy sd w h pb po x y u v b
    cases hq
    obtain ⟨v1, v2, e1, e2, e3⟩ := ic_tot (twB cx cy sd w h pb po x y u v && grnB b) cx cy sd w h pb (chgL (fun i => toB cx cy sd w x y u v i) (fun i => moreV i b) po)
    refine ⟨v1, v2, e1, ?_, e3⟩
    rw [← e2]
    rfl
  · cases hq
noncomputable def ifadeTS : Fsp := fun _ args k => match args with
  | [.agg [.int .i64 cx, .int .i64 cy, .int .i64 sd, .int .i64 w, .int .i64 h, .ro (.int .i64) pb, .ro (.int .i64) po], .int .i64 b] => k (icT (iceB cx cy sd w h pb po && grnB b) cx cy sd w h pb (chgL (fun _ => true) (fun i => wornV i b) po))
  | _ => none
noncomputable def isprayTS : Fsp := fun _ args k => match args with
  | [.agg [.int .i64 cx, .int .i64 cy, .int .i64 sd, .int .i64 w, .int .i64 h, .ro (.int .i64) pb, .ro (.int .i64) po], .agg [.int .i64 x, .int .i64 y], .agg [.int .i64 u, .int .i64 v], .int .i64 b, .int .i64 tn] => k (icT (bxvB cx cy sd w h pb po x y u v && (grnB b && (decide (0 ≤ tn) && decide (tn ≤ 1)))) cx cy sd w h (chgL (fun i => inBx cx cy sd w x y u v i && sprB w tn i) (fun i => moreV i b) pb) po)
  | _ => none
noncomputable def imeanTS : Fsp := fun _ args k => match args with
  | [.agg [.int .i64 cx, .int .i64 cy, .int .i64 sd, .int .i64 w, .int .i64 h, .ro (.int .i64) pb, .ro (.int .i64) po], .agg [.int .i64 x, .int .i64 y], .agg [.int .i64 u, .int .i64 v]] => k (i3T (bxvB cx cy sd w h pb po x y u v) (meaS (fun i => inBx cx cy sd w x y u v i) pb (cels w h)) (meaN (fun i => inBx cx cy sd w x y u v i) (cels w h)))
  | _ => none
noncomputable def iscrapeTS : Fsp := fun _ args k => match args with
  | [.agg [.int .i64 cx, .int .i64 cy, .int .i64 sd, .int .i64 w, .int .i64 h, .ro (.int .i64) pb, .ro (.int .i64) po], .agg [.int .i64 x, .int .i64 y], .agg [.int .i64 u, .int .i64 v], .int .i64 b] => k (icT (bxvB cx cy sd w h pb po x y u v && grnB b) cx cy sd w h (chgL (fun i => inBx cx cy sd w x y u v i && true) (fun i => capV i b) pb) (chgL (fun i => inBx cx cy sd w x y u v i && true) (fun _ => 0) po))
  | _ => none
noncomputable def fsI12 : FuncId → Option Fsp := fun g =>
  if g = 72 then some ipassTS else
  if g = 73 then some isweepTS else
  fsI9 g
theorem fsI12_ok : FsOk fsI12 :=
  fs_cons ipassTS_ok <|
  fs_cons isweepTS_ok <|
  fsI9_ok
end Go.Proofs.YtgpljldfbhkdlaaGreat

namespace Go.Proofs.YtgpljldfbhkdlaaGreat
open Go.RowKit
noncomputable def rfadeTS : Fsp := fun _ args k => match args with
  | [.agg [.int .i64 cx, .int .i64 cy, .int .i64 sd, .int .i64 w, .int .i64 h, .ro (.int .i64) pb, .ro (.int .i64) po], .int .i64 b] => k (icT (iceB cx cy sd w h pb po && grnB b) cx cy sd w h pb (chgL (fun _ => true) (fun i => wornV i b) po))
  | _ => none
theorem rfadeTS_ok : FspOk Tryz.prog 74 rfadeTS := fsp_sim rfadeS_ok (by intro α args k; unfold rfadeTS; split <;> rfl) fun args out hq => by
  unfold rfadeTS at hq
  split at hq
  · rename_i cx cy sd w h pb po b
    cases hq
    obtain ⟨v1, v2, e1, e2, e3⟩ := ic_tot (iceB cx cy sd w h pb po && grnB b) cx cy sd w h pb (chgL (fun _ => true) (fun i => wornV i b) po)
    refine ⟨v1, v2, e1, ?_, e3⟩
    rw [← e2]
    rfl
  · cases hq
noncomputable def rsprayTS : Fsp := fun _ args k => match args with
  | [.agg [.int .i64 cx, .int .i64 cy, .int .i64 sd, .int .i64 w, .int .i64 h, .ro (.int .i64) pb, .ro (.int .i64) po], .agg [.int .i64 x, .int .i64 y], .agg [.int .i64 u, .int .i64 v], .int .i64 b, .int .i64 tn] => k (icT (bxvB cx cy sd w h pb po x y u v && (grnB b && (decide (0 ≤ tn) && decide (tn ≤ 1)))) cx cy sd w h (chgL (fun i => inBx cx cy sd w x y u v i && sprB w tn i) (fun i => moreV i b) pb) po)
  | _ => none
noncomputable def rmeanTS : Fsp := fun _ args k => match args with
  | [.agg [.int .i64 cx, .int .i64 cy, .int .i64 sd, .int .i64 w, .int .i64 h, .ro (.int .i64) pb, .ro (.int .i64) po], .agg [.int .i64 x, .int .i64 y], .agg [.int .i64 u, .int .i64 v]] => k (i3T (bxvB cx cy sd w h pb po x y u v) (meaS (fun i => inBx cx cy sd w x y u v i) pb (cels w h)) (meaN (fun i => inBx cx cy sd w x y u v i) (cels w h)))
  | _ => none
noncomputable def rscrapeTS : Fsp := fun _ args k => match args with
  | [.agg [.int .i64 cx, .int .i64 cy, .int .i64 sd, .int .i64 w, .int .i64 h, .ro (.int .i64) pb, .ro (.int .i64) po], .agg [.int .i64 x, .int .i64 y], .agg [.int .i64 u, .int .i64 v], .int .i64 b] => k (icT (bxvB cx cy sd w h pb po x y u v && grnB b) cx cy sd w h (chgL (fun i => inBx cx cy sd w x y u v i && true) (fun i => capV i b) pb) (chgL (fun i => inBx cx cy sd w x y u v i && true) (fun _ => 0) po))
  | _ => none
end Go.Proofs.YtgpljldfbhkdlaaGreat

namespace Go.Proofs.YtgpljldfbhkdlaaGreat
open Go.RowKit
set_option maxRecDepth 100000 in
theorem rturn_text (N n0 : Nat) (α : Type) (x y u v : Int) (k : AOut → Option α) : evFn real tab ((twY fnR1 spL).env real tab N (n0 + 8)) N Tryz.f198 α [.agg [.int .i64 x, .int .i64 y], .agg [.int .i64 u, .int .i64 v]] k =
 bif okB x then bif okB u then bif !okB y then k (AOut.ret (AVal.tup [AVal.int IntKind.i64 0, AVal.int IntKind.i64 2])) else bif !okB v then k (AOut.ret (AVal.tup [AVal.int
 IntKind.i64 0, AVal.int IntKind.i64 2])) else bif i7 x && i7 v then bif i7 (IntKind.i64.wrap (0 - y)) && i7 u then bif isD (dg (ab x * ab v)) && isD (dg (ab (IntKind.i64.wrap (0 -
 y)) * ab u)) then bif (↑(dg (sumV (xorB (ngB x) (ngB v)) (xorB (ngB (IntKind.i64.wrap (0 - y))) (ngB u)) (vl (dg (ab x * ab v))) (vl (dg (ab (IntKind.i64.wrap (0 - y)) * ab
 u))))).length : Int) == 0 then k (AOut.ret (AVal.tup [AVal.int IntKind.i64 0, AVal.int IntKind.i64 0])) else bif sumB (xorB (ngB x) (ngB v)) (xorB (ngB (IntKind.i64.wrap (0 - y)))
 (ngB u)) (vl (dg (ab x * ab v))) (vl (dg (ab (IntKind.i64.wrap (0 - y)) * ab u))) then k (AOut.ret (AVal.tup [AVal.int IntKind.i64 (-1), AVal.int IntKind.i64 0])) else k (AOut.ret
 (AVal.tup [AVal.int IntKind.i64 1, AVal.int IntKind.i64 0])) else none else none else none else bif !okB y then k (AOut.ret (AVal.tup [AVal.int IntKind.i64 0, AVal.int IntKind.i64
 2])) else k (AOut.ret (AVal.tup [AVal.int IntKind.i64 0, AVal.int IntKind.i64 2])) else bif okB u then k (AOut.ret (AVal.tup [AVal.int IntKind.i64 0, AVal.int IntKind.i64 2])) else
 k (AOut.ret (AVal.tup [AVal.int IntKind.i64 0, AVal.int IntKind.i64 2])) := by kernel_rfl
theorem rturn_fin (x y u v : Int) (hs : ∀ qSm ∈ ([.agg [.int .i64 x, .int .i64 y], .agg [.int .i64 u, .int .i64 v]] : List AVal), Sm qSm) : ∃ N n, ∀ α (k : AOut → Option α), evFn real tab ((twY fnR1 spL).env real tab N n) N Tryz.f198 α [.agg [.int .i64 x, .int .i64 y], .agg [.int .i64 u, .int .i64 v]] k = k (i2 (trnV x y u v) (fourE x y u v)) := by
  refine ⟨8, 8, fun α k => (rturn_text 8 0 α x y u v k).trans ?_⟩
  unfold trnV fourE four
  cases hx : okB x
  · cases okB y <;> cases okB u <;> cases okB v <;> rfl
  cases hu : okB u
  · cases okB y <;> cases okB v <;> rfl
  cases hy : okB y
  · cases okB v <;> rfl
  cases hv : okB v
  · rfl
  have x7 := i7_ok hx; have u7 := i7_ok hu; have v7 := i7_ok hv
  rw [ok_iff] at hx hu hy hv
  have ny : IntKind.i64.wrap (0 - y) = -y := by rw [i64_in (0 - y) (by omega)]; omega
  have y7 : i7 (-y) = true := by rw [i7_iff]; omega
  have ax : 0 ≤ ab x ∧ ab x ≤ 70368744177664 := by unfold ab; split <;> omega
  have au : 0 ≤ ab u ∧ ab u ≤ 70368744177664 := by unfold ab; split <;> omega
  have ay : 0 ≤ ab (-y) ∧ ab (-y) ≤ 70368744177664 := by unfold ab; split <;> omega
  have av : 0 ≤ ab v ∧ ab v ≤ 70368744177664 := by unfold ab; split <;> omega
  have m1 := mul_in ax av
  have m2 := mul_in ay au
  obtain ⟨s1, s2, s3⟩ := sum_sg (m := xorB (ngB x) (ngB v)) (n := xorB (ngB (-y)) (ngB u)) m1.1 m2.1
  rw [sg_mulD, sg_mulD] at s1
  rw [ny, x7, u7, v7, y7, isD_dg (n := ab x * ab v) ⟨m1.1, by omega⟩, isD_dg (n := ab (-y) * ab u) ⟨m2.1, by omega⟩, vl_dg _ m1.1, vl_dg _ m2.1]
  simp only [Bool.and_self, cond_true, Bool.not_true, cond_false]
  have hD : x * v - y * u = x * v + -y * u := by rw [Int.neg_mul]; omega
  rw [hD, ← s1]
  generalize sumV (xorB (ngB x) (ngB v)) (xorB (ngB (-y)) (ngB u)) (ab x * ab v) (ab (-y) * ab u) = V at *
  generalize sumB (xorB (ngB x) (ngB v)) (xorB (ngB (-y)) (ngB u)) (ab x * ab v) (ab (-y) * ab u) = B at *
  by_cases hV : V = 0
  · subst hV
    cases B <;> rfl
  · have : ((dg V).length : Int) ≠ 0 := fun e => hV ((dg_nil s2).1 (List.length_eq_zero_iff.1 (by omega)))
    rw [show (((dg V).length : Int) == 0) = false by simpa using this]
    cases B
    · have : sgn3 (sg false V) = 1 := by
        show cmp3 V 0 = 1
        unfold cmp3; rw [if_neg (by omega), if_pos (by omega)]
      rw [this]; rfl
    · have : sgn3 (sg true V) = -1 := by
        show cmp3 (-V) 0 = -1
        unfold cmp3; rw [if_pos (by omega)]
      rw [this]; rfl
noncomputable def rturnS : Fsp := fun _ args k => match args with
  | [.agg [.int .i64 x, .int .i64 y], .agg [.int .i64 u, .int .i64 v]] => k (i2 (trnV x y u v) (fourE x y u v))
  | _ => none
theorem rturnS_ok : FspOk Tryz.prog 198 rturnS := tower_Y fnR1_ok spL_ok ⟨Tryz.func198, fun _ _ => by kernel_rfl⟩ (by intro α args k; unfold rturnS; split <;> rfl) fun args out hSm hEq => by
  unfold rturnS at hEq
  split at hEq
  · rename_i x y u v
    obtain ⟨N, n, e⟩ := rturn_fin x y u v hSm
    exact ⟨N, n, (e AOut some).trans hEq⟩
  · cases hEq
noncomputable def fnR8 : FuncId → Option Fsp := fun g =>
  if g = 198 then some rturnS else
  fnR1 g
theorem fnR8_ok : FsOk fnR8 :=
  fs_cons rturnS_ok <|
  fnR1_ok
section
variable {α : Type}
def rtF (T : Nat → Int) (n m : Nat) (z : Int × Int × Int × Unit) : Option (LRes (Int × Int × Int × Unit) α) :=
  bif decide (z.2.2.1 < 4) then
    if 0 ≤ z.2.2.1 ∧ z.2.2.1 < (n : Int) then
      if 0 ≤ z.2.2.1 ∧ z.2.2.1 < (m : Int) then
        bif decide (T z.2.2.1.toNat > 0) then
          bif decide (T z.2.2.1.toNat < 0) then some (LRes.cont (IntKind.i64.wrap (z.1 + 1), IntKind.i64.wrap (z.2.1 + 1), IntKind.i64.wrap (z.2.2.1 + 1), ()))
          else some (LRes.cont (IntKind.i64.wrap (z.1 + 1), z.2.1, IntKind.i64.wrap (z.2.2.1 + 1), ()))
        else
          bif decide (T z.2.2.1.toNat < 0) then some (LRes.cont (z.1, IntKind.i64.wrap (z.2.1 + 1), IntKind.i64.wrap (z.2.2.1 + 1), ()))
          else some (LRes.cont (z.1, z.2.1, IntKind.i64.wrap (z.2.2.1 + 1), ()))
      else none
    else none
  else some (LRes.brk 0 (z.1, z.2.1, z.2.2.1, ()))
def rtT (N : Nat) (x y u v lx ly hx hy : Int) (k : AOut → Option α) : Option α :=
  bif decide (mx x u < lx) then k (b1 false) else bif decide (mn x u > hx) then k (b1 false) else bif decide (mx y v < ly) then k (b1 false) else bif decide (mn y v > hy) then k (b1 false)
  else afterL (iterL N (rtF (fun i => trnV (IntKind.i64.wrap (u - x)) (IntKind.i64.wrap (v - y)) (IntKind.i64.wrap (cX lx hx i - x)) (IntKind.i64.wrap (cY ly hy i - y))) ([lx, hx, lx, hx] : List Int).length ([ly, ly, hy, hy] : List Int).length) (0, 0, 0, ())) fun id z => if id = 0 then (bif decide (z.1 < 4) then k (b1 (decide (z.2.1 < 4))) else k (b1 false)) else none
end
set_option maxRecDepth 100000 in
theorem rtouches_text (N n0 : Nat) (α : Type) (cx cy sd w h : Int) (pb po : List Int) (x y u v c : Int) (k : AOut → Option α) : evFn real tab ((twY fnR8 spL).env real tab N (n0 + 8)) N Tryz.f176 α [.agg [.int .i64 cx, .int .i64 cy, .int .i64 sd, .int .i64 w, .int .i64 h, .ro (.int .i64) pb, .ro (.int .i64) po], .agg [.int .i64 x, .int .i64 y], .agg [.int .i64 u, .int .i64 v], .int .i64 c] k =
 if w = 0 then none else if w = 0 then none else rtT N x y u v (lwX cx sd w c) (lwY cy sd w c) (hgX cx sd w c) (hgY cy sd w c) k := by kernel_rfl
theorem rt_loop {α : Type} (T : Nat → Int) (hT : ∀ i : Nat, i < 4 → T i = -1 ∨ T i = 0 ∨ T i = 1) (K : Nat → Int × Int × Int × Unit → Option α) {N : Nat} (hN : 4 < N) :
    afterL (iterL N (rtF T 4 4) (0, 0, 0, ())) K = K 0 (cnT T 1 4, cnT T (-1) 4, 4, ()) := by
  refine count_loop (f := rtF T 4 4) (fun i : Nat => (cnT T 1 i, cnT T (-1) i, (i : Int), ())) 4 (fun i hi => ?_) ?_ hN
  · have a := cnT_in T 1 i
    have b := cnT_in T (-1) i
    unfold rtF
    simp only
    rw [decide_eq_true (show (i : Int) < 4 by omega), cond_true, if_pos ⟨by omega, by omega⟩, if_pos ⟨by omega, by omega⟩, Int.toNat_natCast, i64_in ((i : Int) + 1) (by omega), i64_in (cnT T 1 i + 1) (by omega), i64_in (cnT T (-1) i + 1) (by omega)]
    simp only [cnT]
    rcases hT i hi with h | h | h <;> rw [h] <;> simp
  · rfl
theorem rtouches_fin (cx cy sd w h : Int) (pb po : List Int) (x y u v c : Int) (hs : ∀ qSm ∈ ([.agg [.int .i64 cx, .int .i64 cy, .int .i64 sd, .int .i64 w, .int .i64 h, .ro (.int .i64) pb, .ro (.int .i64) po], .agg [.int .i64 x, .int .i64 y], .agg [.int .i64 u, .int .i64 v], .int .i64 c] : List AVal), Sm qSm) (hCo : (iceB cx cy sd w h pb po && (plcB x y && plcB u v) && (decide (0 ≤ c) && decide (c < w * h))) = true) : ∃ N n, ∀ α (k : AOut → Option α), evFn real tab ((twY fnR8 spL).env real tab N n) N Tryz.f176 α [.agg [.int .i64 cx, .int .i64 cy, .int .i64 sd, .int .i64 w, .int .i64 h, .ro (.int .i64) pb, .ro (.int .i64) po], .agg [.int .i64 x, .int .i64 y], .agg [.int .i64 u, .int .i64 v], .int .i64 c] k = k (b1 (toB cx cy sd w x y u v c)) := by
  simp only [Bool.and_eq_true, decide_eq_true_eq, plc_iff] at hCo
  obtain ⟨⟨hI, hp, hq⟩, c0, c1⟩ := hCo
  have g := ice_is _ _ _ _ _ _ _ hI
  have gc := g.fc; have gs := g.fs
  refine ⟨8, 8, fun α k => (rtouches_text 8 0 α cx cy sd w h pb po x y u v c k).trans ?_⟩
  obtain ⟨e1, e2, e3, e4⟩ := lw_eq g.fc g.fs g.fw g.fh c0 c1
  obtain ⟨_, _, b1', b2'⟩ := cell_at g.fc g.fs g.fw g.fh c0 c1
  have hw := g.fw
  rw [if_neg (by omega), if_neg (by omega), e1, e2, e3, e4]
  unfold toB
  have l1 : -1677721600000 ≤ cx + c % w * sd ∧ cx + c % w * sd ≤ 1677721600000 := by omega
  have l2 : -1677721600000 ≤ cy + c / w * sd ∧ cy + c / w * sd ≤ 1677721600000 := by omega
  clear e1 e2 e3 e4 b1' b2'
  generalize cx + c % w * sd = lx at *
  generalize cy + c / w * sd = ly at *
  have hT : ∀ i : Nat, i < 4 → trnV (IntKind.i64.wrap (u - x)) (IntKind.i64.wrap (v - y)) (IntKind.i64.wrap (cX lx (lx + sd) i - x)) (IntKind.i64.wrap (cY ly (ly + sd) i - y)) = sid x y u v lx ly (lx + sd) (ly + sd) i := fun i hi => by
    have q1 := (cXY_in (B := 1684275200000) (show -1684275200000 ≤ lx ∧ lx ≤ 1684275200000 by omega) (show -1684275200000 ≤ lx + sd ∧ lx + sd ≤ 1684275200000 by omega) hi).1
    have q2 := (cXY_in (B := 1684275200000) (show -1684275200000 ≤ ly ∧ ly ≤ 1684275200000 by omega) (show -1684275200000 ≤ ly + sd ∧ ly + sd ≤ 1684275200000 by omega) hi).2
    rw [i64_in (u - x) (by omega), i64_in (v - y) (by omega), i64_in (cX lx (lx + sd) i - x) (by omega), i64_in (cY ly (ly + sd) i - y) (by omega), trn_ok (B := 1690828800000) (by omega) (by omega) (by omega) (by omega) (by omega)]
    rfl
  unfold rtT
  show (bif decide (mx x u < lx) then k (b1 false) else bif decide (mn x u > lx + sd) then k (b1 false) else bif decide (mx y v < ly) then k (b1 false) else bif decide (mn y v > ly + sd) then k (b1 false) else afterL (iterL 8 (rtF _ 4 4) (0, 0, 0, ())) _) = _
  rw [rt_loop _ (fun i hi => by rw [hT i hi]; exact sgn3_in _) _ (by omega), cnT_congr (-1) 4 hT, cnT_congr 1 4 hT]
  unfold touB
  have f : ∀ a b : Int, decide (a < b) = !decide (b ≤ a) := fun a b => by
    by_cases h : b ≤ a
    · rw [decide_eq_true h, decide_eq_false (by omega)]; rfl
    · rw [decide_eq_false h, decide_eq_true (by omega)]; rfl
  rw [f (mx x u), gt_le, f (mx y v), gt_le]
  simp only [if_pos]
  cases decide (lx ≤ mx x u) <;> cases decide (mn x u ≤ lx + sd) <;> cases decide (ly ≤ mx y v) <;> cases decide (mn y v ≤ ly + sd) <;> cases decide (cnT (sid x y u v lx ly (lx + sd) (ly + sd)) (-1) 4 < 4) <;> cases decide (cnT (sid x y u v lx ly (lx + sd) (ly + sd)) 1 4 < 4) <;> rfl
noncomputable def rtouchesS : Fsp := fun _ args k => match args with
  | [.agg [.int .i64 cx, .int .i64 cy, .int .i64 sd, .int .i64 w, .int .i64 h, .ro (.int .i64) pb, .ro (.int .i64) po], .agg [.int .i64 x, .int .i64 y], .agg [.int .i64 u, .int .i64 v], .int .i64 c] => bif iceB cx cy sd w h pb po && (plcB x y && plcB u v) && (decide (0 ≤ c) && decide (c < w * h)) then (k (b1 (toB cx cy sd w x y u v c))) else none
  | _ => none
theorem rtouchesS_ok : FspOk Tryz.prog 176 rtouchesS := tower_Y fnR8_ok spL_ok ⟨Tryz.func176, fun _ _ => by kernel_rfl⟩ (by intro α args k; unfold rtouchesS; split <;> simp only [cond_bind, Option.bind_some, Option.bind_none]) fun args out hSm hEq => by
  unfold rtouchesS at hEq
  split at hEq
  · rename_i cx cy sd w h pb po x y u v c
    cases hc : iceB cx cy sd w h pb po && (plcB x y && plcB u v) && (decide (0 ≤ c) && decide (c < w * h))
    · rw [hc] at hEq; cases hEq
    · rw [hc] at hEq
      obtain ⟨N, n, e⟩ := rtouches_fin cx cy sd w h pb po x y u v c hSm hc
      exact ⟨N, n, (e AOut some).trans hEq⟩
  · cases hEq
noncomputable def fnR9 : FuncId → Option Fsp := fun g =>
  if g = 176 then some rtouchesS else
  fnR8 g
theorem fnR9_ok : FsOk fnR9 :=
  fs_cons rtouchesS_ok <|
  fnR8_ok
end Go.Proofs.YtgpljldfbhkdlaaGreat

namespace Go.Proofs.YtgpljldfbhkdlaaGreat
open Go.RowKit
theorem cnT_full {T : Nat → Int} {v : Int} : ∀ (n : Nat), cnT T v n = n → ∀ i, i < n → T i = v
  | 0, _, i, hi => by omega
  | n + 1, h, i, hi => by
    have := cnT_in T v n
    simp only [cnT] at h
    by_cases hn : T n = v
    · rw [if_pos hn] at h
      rcases Nat.lt_or_ge i n with h' | h'
      · exact cnT_full n (by omega) i h'
      · have : i = n := by omega
        subst this; exact hn
    · rw [if_neg hn] at h; omega
theorem cnT_lt {T : Nat → Int} {v : Int} {i : Nat} (hi : i < 4) (h : T i ≠ v) : cnT T v 4 < 4 := by
  have := cnT_in T v 4
  by_cases h4 : cnT T v 4 = 4
  · exact absurd (cnT_full 4 h4 i hi) h
  · omega
theorem sgn3_neg {a : Int} : sgn3 a = -1 ↔ a < 0 := by
  unfold sgn3 cmp3
  split
  · simp; omega
  · split <;> simp <;> omega
theorem sgn3_pos {a : Int} : sgn3 a = 1 ↔ 0 < a := by
  unfold sgn3 cmp3
  split
  · simp; omega
  · split <;> simp <;> omega
theorem tou_of {x y u v lx ly hx hy s t : Int} (h0 : (u - x) * (t - y) - (v - y) * (s - x) = 0) (hs : mn x u ≤ s ∧ s ≤ mx x u) (ht : mn y v ≤ t ∧ t ≤ mx y v) (hX : lx ≤ s ∧ s ≤ hx) (hY : ly ≤ t ∧ t ≤ hy) : touB x y u v lx ly hx hy = true := by
  simp only [touB, Bool.and_eq_true, decide_eq_true_eq]
  refine ⟨⟨⟨by omega, by omega⟩, by omega, by omega⟩, ?_, ?_⟩
  · -- some corner is not to the right
    have key : ∃ i, i < 4 ∧ 0 ≤ (u - x) * (cY ly hy i - y) - (v - y) * (cX lx hx i - x) := by
      have yy : ∃ Y, (Y = ly ∨ Y = hy) ∧ (u - x) * (t - y) ≤ (u - x) * (Y - y) := by
        rcases Int.le_total 0 (u - x) with h | h
        · exact ⟨hy, .inr rfl, Int.mul_le_mul_of_nonneg_left (by omega) h⟩
        · exact ⟨ly, .inl rfl, Int.mul_le_mul_of_nonpos_left h (by omega)⟩
      have xx : ∃ X, (X = lx ∨ X = hx) ∧ (v - y) * (X - x) ≤ (v - y) * (s - x) := by
        rcases Int.le_total 0 (v - y) with h | h
        · exact ⟨lx, .inl rfl, Int.mul_le_mul_of_nonneg_left (by omega) h⟩
        · exact ⟨hx, .inr rfl, Int.mul_le_mul_of_nonpos_left h (by omega)⟩
      obtain ⟨Y, hY', e1⟩ := yy
      obtain ⟨X, hX', e2⟩ := xx
      rcases hY' with rfl | rfl <;> rcases hX' with rfl | rfl
      · exact ⟨0, by omega, by simp only [cX, cY, List.getD_cons_zero]; omega⟩
      · exact ⟨1, by omega, by simp only [cX, cY, List.getD_cons_zero, List.getD_cons_succ]; omega⟩
      · exact ⟨2, by omega, by simp only [cX, cY, List.getD_cons_zero, List.getD_cons_succ]; omega⟩
      · exact ⟨3, by omega, by simp only [cX, cY, List.getD_cons_zero, List.getD_cons_succ]; omega⟩
    obtain ⟨i, hi, hp⟩ := key
    exact cnT_lt hi fun e => by have := sgn3_neg.1 e; omega
  · have key : ∃ i, i < 4 ∧ (u - x) * (cY ly hy i - y) - (v - y) * (cX lx hx i - x) ≤ 0 := by
      have yy : ∃ Y, (Y = ly ∨ Y = hy) ∧ (u - x) * (Y - y) ≤ (u - x) * (t - y) := by
        rcases Int.le_total 0 (u - x) with h | h
        · exact ⟨ly, .inl rfl, Int.mul_le_mul_of_nonneg_left (by omega) h⟩
        · exact ⟨hy, .inr rfl, Int.mul_le_mul_of_nonpos_left h (by omega)⟩
      have xx : ∃ X, (X = lx ∨ X = hx) ∧ (v - y) * (s - x) ≤ (v - y) * (X - x) := by
        rcases Int.le_total 0 (v - y) with h | h
        · exact ⟨hx, .inr rfl, Int.mul_le_mul_of_nonneg_left (by omega) h⟩
        · exact ⟨lx, .inl rfl, Int.mul_le_mul_of_nonpos_left h (by omega)⟩
      obtain ⟨Y, hY', e1⟩ := yy
      obtain ⟨X, hX', e2⟩ := xx
      rcases hY' with rfl | rfl <;> rcases hX' with rfl | rfl
      · exact ⟨0, by omega, by simp only [cX, cY, List.getD_cons_zero]; omega⟩
      · exact ⟨1, by omega, by simp only [cX, cY, List.getD_cons_zero, List.getD_cons_succ]; omega⟩
      · exact ⟨2, by omega, by simp only [cX, cY, List.getD_cons_zero, List.getD_cons_succ]; omega⟩
      · exact ⟨3, by omega, by simp only [cX, cY, List.getD_cons_zero, List.getD_cons_succ]; omega⟩
    obtain ⟨i, hi, hp⟩ := key
    exact cnT_lt hi fun e => by have := sgn3_pos.1 e; omega
theorem mx_comm (a b : Int) : mx a b = mx b a := by unfold mx; split <;> split <;> omega
theorem mn_comm (a b : Int) : mn a b = mn b a := by unfold mn; split <;> split <;> omega
theorem cnT_flip {S T : Nat → Int} (v : Int) : ∀ n, (∀ i, i < n → (S i = v ↔ T i = -v)) → cnT S v n = cnT T (-v) n
  | 0, _ => rfl
  | n + 1, h => by
    simp only [cnT, cnT_flip v n fun i hi => h i (by omega)]
    have := h n (by omega)
    by_cases hs : S n = v
    · rw [if_pos hs, if_pos (this.1 hs)]
    · rw [if_neg hs, if_neg fun e => hs (this.2 e)]
theorem cross_back (x y u v X Y : Int) : (x - u) * (Y - v) - (y - v) * (X - u) = -((u - x) * (Y - y) - (v - y) * (X - x)) := by
  have e1 : (x - u) * (Y - v) = x * Y - x * v - u * Y + u * v := by rw [Int.sub_mul, Int.mul_sub, Int.mul_sub]; omega
  have e2 : (y - v) * (X - u) = y * X - y * u - v * X + v * u := by rw [Int.sub_mul, Int.mul_sub, Int.mul_sub]; omega
  have e3 : (u - x) * (Y - y) = u * Y - u * y - x * Y + x * y := by rw [Int.sub_mul, Int.mul_sub, Int.mul_sub]; omega
  have e4 : (v - y) * (X - x) = v * X - v * x - y * X + y * x := by rw [Int.sub_mul, Int.mul_sub, Int.mul_sub]; omega
  rw [e1, e2, e3, e4, Int.mul_comm v u, Int.mul_comm y u, Int.mul_comm v x, Int.mul_comm y x]
  omega
theorem tou_back (x y u v lx ly hx hy : Int) : touB u v x y lx ly hx hy = touB x y u v lx ly hx hy := by
  have flip : ∀ w : Int, w = -1 ∨ w = 1 → cnT (sid u v x y lx ly hx hy) w 4 = cnT (sid x y u v lx ly hx hy) (-w) 4 := fun w hw => cnT_flip w 4 fun i _ => by
    unfold sid
    rw [cross_back]
    generalize (u - x) * (cY ly hy i - y) - (v - y) * (cX lx hx i - x) = q
    rcases hw with rfl | rfl
    · rw [sgn3_neg, show -(-1 : Int) = 1 from rfl, sgn3_pos]; omega
    · rw [sgn3_pos, sgn3_neg]; omega
  unfold touB
  rw [flip (-1) (.inl rfl), flip 1 (.inr rfl), mx_comm u x, mn_comm u x, mx_comm v y, mn_comm v y, show -(-1 : Int) = 1 from rfl]
  rw [Bool.and_comm (decide (cnT (sid x y u v lx ly hx hy) 1 4 < 4))]
theorem cel_parts {cx cy sd w h x y : Int} (hsd : 1 ≤ sd) (hw : 1 ≤ w) (hi : inCel cx cy sd w h x y = true) : celC cx cy sd w x y % w = (x - cx) / sd ∧ celC cx cy sd w x y / w = (y - cy) / sd := by
  obtain ⟨_, _, ⟨a0, a1⟩, b0, b1⟩ := cel_in hsd hw hi
  unfold celC
  generalize (x - cx) / sd = p at *
  generalize (y - cy) / sd = q at *
  constructor
  · rw [Int.add_comm, Int.add_mul_emod_self_right, Int.emod_eq_of_lt a0 a1]
  · rw [Int.add_comm, Int.add_mul_ediv_right _ _ (by omega), Int.ediv_eq_zero_of_lt a0 a1]; omega
theorem to_of_place {cx cy sd w h x y u v s t : Int} (hsd : 1 ≤ sd) (hw : 1 ≤ w) (h0 : (u - x) * (t - y) - (v - y) * (s - x) = 0) (hs : mn x u ≤ s ∧ s ≤ mx x u) (ht : mn y v ≤ t ∧ t ≤ mx y v) (hi : inCel cx cy sd w h s t = true) : toB cx cy sd w x y u v (celC cx cy sd w s t) = true := by
  obtain ⟨e1, e2⟩ := cel_parts hsd hw hi
  unfold toB
  rw [e1, e2]
  have f1 := Int.emod_add_mul_ediv (s - cx) sd
  have f2 := Int.emod_nonneg (s - cx) (show sd ≠ 0 by omega)
  have f3 := Int.emod_lt_of_pos (s - cx) (show 0 < sd by omega)
  have g1 := Int.emod_add_mul_ediv (t - cy) sd
  have g2 := Int.emod_nonneg (t - cy) (show sd ≠ 0 by omega)
  have g3 := Int.emod_lt_of_pos (t - cy) (show 0 < sd by omega)
  rw [Int.mul_comm] at f1 g1
  exact tou_of h0 hs ht ⟨by omega, by omega⟩ ⟨by omega, by omega⟩
/-! Lists of numbers for which something holds. -/
theorem whL_at (hit : Nat → Bool) (n : Nat) {i : Nat} (hi : i < (whL hit n).length) : ∃ m : Nat, (whL hit n).getD i 0 = m ∧ m < n ∧ hit m = true := by
  rw [List.getD_eq_getElem?_getD, List.getElem?_eq_getElem hi]
  have hm := List.getElem_mem hi
  obtain ⟨m, hm', e⟩ := List.mem_map.1 hm
  obtain ⟨h1, h2⟩ := List.mem_filter.1 hm'
  exact ⟨m, by rw [Option.getD_some]; exact e.symm, List.mem_range.1 h1, h2⟩
theorem whL_has {hit : Nat → Bool} {n m : Nat} (hm : m < n) (h : hit m = true) : ∃ i, i < (whL hit n).length ∧ (whL hit n).getD i 0 = (m : Int) := by
  have : (m : Int) ∈ whL hit n := List.mem_map.2 ⟨m, List.mem_filter.2 ⟨List.mem_range.2 hm, h⟩, rfl⟩
  obtain ⟨i, hi, e⟩ := List.mem_iff_getElem.1 this
  exact ⟨i, hi, by rw [List.getD_eq_getElem?_getD, List.getElem?_eq_getElem hi, Option.getD_some, e]⟩
theorem whL_rise (hit : Nat → Bool) (n : Nat) : (whL hit n).Pairwise (· < ·) := by
  unfold whL
  rw [List.pairwise_map]
  refine (List.Pairwise.filter _ List.pairwise_lt_range).imp ?_
  intro a b h; omega
theorem whL_next (hit : Nat → Bool) (n : Nat) {i : Nat} (h0 : 0 < i) (hi : i < (whL hit n).length) : (whL hit n).getD (i - 1) 0 < (whL hit n).getD i 0 := by
  have := List.pairwise_iff_getElem.1 (whL_rise hit n) (i - 1) i (by omega) hi (by omega)
  rw [List.getD_eq_getElem?_getD, List.getD_eq_getElem?_getD, List.getElem?_eq_getElem hi, List.getElem?_eq_getElem (by omega)]
  exact this
end Go.Proofs.YtgpljldfbhkdlaaGreat

namespace Go.Proofs.YtgpljldfbhkdlaaGreat
open Go.RowKit
section
variable {α : Type}
def rtdF (dom hit : Int → Bool) (wh : Int) (z : List Int × Int × Unit) : Option (LRes (List Int × Int × Unit) α) :=
  bif decide (z.2.1 < wh) then
    bif dom z.2.1 then
      bif hit z.2.1 then if (z.1.length + [z.2.1].length) * 8 ≤ room then some (LRes.cont (z.1 ++ [z.2.1], IntKind.i64.wrap (z.2.1 + 1), ())) else none
      else some (LRes.cont (z.1, IntKind.i64.wrap (z.2.1 + 1), ()))
    else none
  else some (LRes.brk 0 (z.1, z.2.1, ()))
def rpF (L : List Int) (f : Int → Int) (z : St2) : Option (LRes St2 α) :=
  bif decide (z.2.2.1 < (L.length : Int)) then
    in2 z.2.2.1 L (in2 z.2.2.1 L (in2 (L.getD z.2.2.1.toNat 0) z.1 (in2 (L.getD z.2.2.1.toNat 0) z.1
      (some (LRes.cont (z.1.set (L.getD z.2.2.1.toNat 0).toNat (f (z.1.getD (L.getD z.2.2.1.toNat 0).toNat 0)), z.2.1, IntKind.i64.wrap (z.2.2.1 + 1), ()))))))
  else some (LRes.brk 0 (z.1, z.2.1, z.2.2.1, ()))
def rsF (L : List Int) (f : Int → Int) (z : St2) : Option (LRes St2 α) :=
  bif decide (z.2.2.1 < (L.length : Int)) then
    in2 z.2.2.1 L (in2 z.2.2.1 L (in2 (L.getD z.2.2.1.toNat 0) z.2.1 (in2 (L.getD z.2.2.1.toNat 0) z.2.1
      (some (LRes.cont (z.1, z.2.1.set (L.getD z.2.2.1.toNat 0).toNat (f (z.2.1.getD (L.getD z.2.2.1.toNat 0).toNat 0)), IntKind.i64.wrap (z.2.2.1 + 1), ()))))))
  else some (LRes.brk 0 (z.1, z.2.1, z.2.2.1, ()))
end
set_option maxRecDepth 100000 in
theorem rpass_text (N n0 : Nat) (α : Type) (cx cy sd w h : Int) (pb po : List Int) (fl ke sw be we : Int) (x y u v : Int) (k : AOut → Option α) : evFn real tab ((twY fnR9 spL).env real tab N (n0 + 8)) N Tryz.f76 α [.agg [.int .i64 cx, .int .i64 cy, .int .i64 sd, .int .i64 w, .int .i64 h, .ro (.int .i64) pb, .ro (.int .i64) po], .agg [.int .i64 fl, .int .i64 ke, .int .i64 sw, .int .i64 be, .int .i64 we], .agg [.int .i64 x, .int .i64 y], .agg [.int .i64 u, .int .i64 v]] k =
 bif iceB cx cy sd w h pb po then bif !graB fl ke sw be we then k icN else bif !plcB x y then k icN else bif !plcB u v then k icN else cop2 pb po (afterL (iterL N (rtdF (fun c =>
 iceB cx cy sd w h ((List.nil (α := Int)) ++ pb) ((List.nil (α := Int)) ++ po) && (plcB x y && plcB u v) && (decide (0 ≤ c) && decide (c < w * h))) (toB cx cy sd w x y u v)
 (IntKind.i64.wrap (w * h))) ([], 0, ())) fun id y => if id = 0 then afterL (iterL N (rpF y.1 fun n => wornV n we) ((List.nil (α := Int)) ++ pb, (List.nil (α := Int)) ++ po, 0, ()))
 fun id z => if id = 0 then k (icO cx cy sd w h z.1 z.2.1) else none else none) else k icN := by kernel_rfl
set_option maxRecDepth 100000 in
theorem rsweep_text (N n0 : Nat) (α : Type) (cx cy sd w h : Int) (pb po : List Int) (x y u v b : Int) (k : AOut → Option α) : evFn real tab ((twY fnR9 spL).env real tab N (n0 + 8)) N Tryz.f77 α [.agg [.int .i64 cx, .int .i64 cy, .int .i64 sd, .int .i64 w, .int .i64 h, .ro (.int .i64) pb, .ro (.int .i64) po], .agg [.int .i64 x, .int .i64 y], .agg [.int .i64 u, .int .i64 v], .int .i64 b] k =
 bif iceB cx cy sd w h pb po then bif !plcB x y then k icN else bif !plcB u v then k icN else bif decide (0 ≤ b) then bif !decide (b ≤ 1000) then k icN else cop2 pb po (afterL (iterL
 N (rtdF (fun c => iceB cx cy sd w h ((List.nil (α := Int)) ++ pb) ((List.nil (α := Int)) ++ po) && (plcB x y && plcB u v) && (decide (0 ≤ c) && decide (c < w * h))) (toB cx cy sd w
 x y u v) (IntKind.i64.wrap (w * h))) ([], 0, ())) fun id y => if id = 0 then afterL (iterL N (rsF y.1 fun n => moreV n b) ((List.nil (α := Int)) ++ pb, (List.nil (α := Int)) ++ po,
 0, ())) fun id z => if id = 0 then k (icO cx cy sd w h z.1 z.2.1) else none else none) else k icN else k icN := by kernel_rfl
theorem rtd_loop {α : Type} (dom hit : Int → Bool) {wh : Int} {n : Nat} (hn : (n : Int) = wh) (hn2 : n ≤ 65536) (hd : ∀ i : Nat, i < n → dom i = true) (K : Nat → List Int × Int × Unit → Option α) {N : Nat} (hN : n < N) :
    afterL (iterL N (rtdF dom hit wh) ([], 0, ())) K = K 0 (whL (fun i => hit i) n, (n : Int), ()) := by
  refine count_loop (f := rtdF dom hit wh) (fun i : Nat => (whL (fun i => hit i) i, (i : Int), ())) n (fun i hi => ?_) ?_ hN
  · have hl := whL_len (fun i => hit i) i
    unfold rtdF
    simp only
    rw [decide_eq_true (show (i : Int) < wh by omega), hd i hi, i64_in ((i : Int) + 1) (by omega), whL_succ]
    simp only [cond_true]
    cases hit i
    · simp only [cond_false, List.append_nil]; rfl
    · rw [cond_true, if_pos (by simp [room]; omega)]; rfl
  · unfold rtdF
    simp only
    rw [decide_eq_false (by omega)]
    rfl
def forL (f : Int → Int) (l : List Int) (t : List Int) : List Int := l.foldl (fun t c => updL f c.toNat t) t
theorem forL_len (f : Int → Int) : ∀ (l t : List Int), (forL f l t).length = t.length
  | [], t => rfl
  | c :: l, t => by
    show (forL f l (updL f c.toNat t)).length = t.length
    rw [forL_len f l]; unfold updL; rw [List.length_set]
theorem forL_take (f : Int → Int) {l : List Int} {i : Nat} (hi : i < l.length) (t : List Int) : forL f (l.take (i + 1)) t = updL f (l.getD i 0).toNat (forL f (l.take i) t) := by
  have : l.take (i + 1) = l.take i ++ [l.getD i 0] := by
    rw [List.getD_eq_getElem?_getD, List.getElem?_eq_getElem hi, Option.getD_some, List.take_succ_eq_append_getElem hi]
  unfold forL
  rw [this, List.foldl_append]
  rfl
theorem forL_wh (f : Int → Int) (hit : Nat → Bool) (t : List Int) : ∀ n, forL f (whL hit n) t = foldC hit (updL f) t n
  | 0 => rfl
  | n + 1 => by
    rw [whL_succ]
    unfold forL
    rw [List.foldl_append]
    have ih := forL_wh f hit t n
    unfold forL at ih
    rw [ih]
    simp only [foldC]
    cases hit n <;> rfl
theorem rp_loop {α : Type} (hit : Nat → Bool) (f : Int → Int) (pb po : List Int) {n : Nat} (hp : pb.length = n) (hn : n ≤ 65536) (K : Nat → St2 → Option α) {N : Nat} (hN : n < N) :
    afterL (iterL N (rpF (whL hit n) f) (pb, po, 0, ())) K = K 0 (chgL hit f pb, po, ((whL hit n).length : Int), ()) := by
  have hlen := whL_len hit n
  have key := count_loop (f := rpF (whL hit n) f) (K := K) (fun i : Nat => (forL f ((whL hit n).take i) pb, po, (i : Int), ())) (whL hit n).length (b := 0) (y := (forL f ((whL hit n).take (whL hit n).length) pb, po, ((whL hit n).length : Int), ())) (fun i hi => ?_) ?_ (N := N) (by omega)
  · rw [List.take_length, forL_wh, ← hp, fold_chg, hp] at key
    exact key
  · obtain ⟨m, hv, hm, _⟩ := whL_at hit n hi
    have hl := forL_len f ((whL hit n).take i) pb
    unfold rpF
    simp only
    rw [decide_eq_true (show (i : Int) < ((whL hit n).length : Int) by omega), cond_true, in2_pos ⟨by omega, by omega⟩, in2_pos ⟨by omega, by omega⟩, Int.toNat_natCast, forL_take f hi, hv, in2_pos ⟨by omega, by omega⟩, in2_pos ⟨by omega, by omega⟩, i64_in ((i : Int) + 1) (by omega)]
    rfl
  · unfold rpF
    simp only
    rw [decide_eq_false (by omega)]
    rfl
theorem rs_loop {α : Type} (hit : Nat → Bool) (f : Int → Int) (pb po : List Int) {n : Nat} (hp : po.length = n) (hn : n ≤ 65536) (K : Nat → St2 → Option α) {N : Nat} (hN : n < N) :
    afterL (iterL N (rsF (whL hit n) f) (pb, po, 0, ())) K = K 0 (pb, chgL hit f po, ((whL hit n).length : Int), ()) := by
  have hlen := whL_len hit n
  have key := count_loop (f := rsF (whL hit n) f) (K := K) (fun i : Nat => (pb, forL f ((whL hit n).take i) po, (i : Int), ())) (whL hit n).length (b := 0) (y := (pb, forL f ((whL hit n).take (whL hit n).length) po, ((whL hit n).length : Int), ())) (fun i hi => ?_) ?_ (N := N) (by omega)
  · rw [List.take_length, forL_wh, ← hp, fold_chg, hp] at key
    exact key
  · obtain ⟨m, hv, hm, _⟩ := whL_at hit n hi
    have hl := forL_len f ((whL hit n).take i) po
    unfold rsF
    simp only
    rw [decide_eq_true (show (i : Int) < ((whL hit n).length : Int) by omega), cond_true, in2_pos ⟨by omega, by omega⟩, in2_pos ⟨by omega, by omega⟩, Int.toNat_natCast, forL_take f hi, hv, in2_pos ⟨by omega, by omega⟩, in2_pos ⟨by omega, by omega⟩, i64_in ((i : Int) + 1) (by omega)]
    rfl
  · unfold rsF
    simp only
    rw [decide_eq_false (by omega)]
    rfl
noncomputable def rtouchedS : Fsp := fun _ args k => match args with
  | [.agg [.int .i64 cx, .int .i64 cy, .int .i64 sd, .int .i64 w, .int .i64 h, .ro (.int .i64) pb, .ro (.int .i64) po], .agg [.int .i64 x, .int .i64 y], .agg [.int .i64 u, .int .i64 v]] => k (.ret (.tup [.ro (.int .i64) (tcV cx cy sd w h pb po x y u v), .int .i64 (er2 (twB cx cy sd w h pb po x y u v))]))
  | _ => none
theorem rpass_fin (cx cy sd w h : Int) (pb po : List Int) (fl ke sw be we : Int) (x y u v : Int) (hs : ∀ qSm ∈ ([.agg [.int .i64 cx, .int .i64 cy, .int .i64 sd, .int .i64 w, .int .i64 h, .ro (.int .i64) pb, .ro (.int .i64) po], .agg [.int .i64 fl, .int .i64 ke, .int .i64 sw, .int .i64 be, .int .i64 we], .agg [.int .i64 x, .int .i64 y], .agg [.int .i64 u, .int .i64 v]] : List AVal), Sm qSm) : ∃ N n, ∀ α (k : AOut → Option α), evFn real tab ((twY fnR9 spL).env real tab N n) N Tryz.f76 α [.agg [.int .i64 cx, .int .i64 cy, .int .i64 sd, .int .i64 w, .int .i64 h, .ro (.int .i64) pb, .ro (.int .i64) po], .agg [.int .i64 fl, .int .i64 ke, .int .i64 sw, .int .i64 be, .int .i64 we], .agg [.int .i64 x, .int .i64 y], .agg [.int .i64 u, .int .i64 v]] k = bif pasB cx cy sd w h pb po fl ke sw be we x y u v then k (icO cx cy sd w h (chgL (fun i => toB cx cy sd w x y u v i) (fun i => wornV i we) pb) po) else k (icN) := by
  refine ⟨65537, 8, fun α k => (rpass_text 65537 0 α cx cy sd w h pb po fl ke sw be we x y u v k).trans ?_⟩
  unfold pasB
  cases hI : iceB cx cy sd w h pb po
  · rfl
  cases hG : graB fl ke sw be we
  · rfl
  cases hp : plcB x y
  · rfl
  cases hq : plcB u v
  · rfl
  have g := ice_is _ _ _ _ _ _ _ hI
  have l1 := list_ok g.fw g.fh g.pl
  have l2 := list_ok g.fw g.fh g.ol
  obtain ⟨c1, c2⟩ := cels_le g.fw g.fh
  have hpl := g.pl
  simp only [Bool.not_true, Bool.and_self, cond_true, cond_false]
  rw [cop2_pos l1.2 l2.2, List.nil_append, List.nil_append, hI]
  rw [rtd_loop _ (toB cx cy sd w x y u v) (n := cels w h) (by rw [i64_in (w * h) (by omega)]; exact c2) c1 (fun i hi => by rw [decide_eq_true (show (0 : Int) ≤ i by omega), decide_eq_true (show (i : Int) < w * h by omega)]; rfl) _ (by omega), if_pos rfl]
  rw [rp_loop (fun i => toB cx cy sd w x y u v i) _ pb po (n := cels w h) (by omega) c1 _ (by omega), if_pos rfl]
noncomputable def rpassS : Fsp := fun _ args k => match args with
  | [.agg [.int .i64 cx, .int .i64 cy, .int .i64 sd, .int .i64 w, .int .i64 h, .ro (.int .i64) pb, .ro (.int .i64) po], .agg [.int .i64 fl, .int .i64 ke, .int .i64 sw, .int .i64 be, .int .i64 we], .agg [.int .i64 x, .int .i64 y], .agg [.int .i64 u, .int .i64 v]] => bif pasB cx cy sd w h pb po fl ke sw be we x y u v then k (icO cx cy sd w h (chgL (fun i => toB cx cy sd w x y u v i) (fun i => wornV i we) pb) po) else k (icN)
  | _ => none
theorem rpassS_ok : FspOk Tryz.prog 76 rpassS := tower_Y fnR9_ok spL_ok ⟨Tryz.func76, fun _ _ => by kernel_rfl⟩ (by intro α args k; unfold rpassS; split <;> simp only [cond_bind, Option.bind_some, Option.bind_none]) fun args out hSm hEq => by
  unfold rpassS at hEq
  split at hEq
  · rename_i cx cy sd w h pb po fl ke sw be we x y u v
    obtain ⟨N, n, e⟩ := rpass_fin cx cy sd w h pb po fl ke sw be we x y u v hSm
    exact ⟨N, n, (e AOut some).trans hEq⟩
  · cases hEq
theorem rsweep_fin (cx cy sd w h : Int) (pb po : List Int) (x y u v b : Int) (hs : ∀ qSm ∈ ([.agg [.int .i64 cx, .int .i64 cy, .int .i64 sd, .int .i64 w, .int .i64 h, .ro (.int .i64) pb, .ro (.int .i64) po], .agg [.int .i64 x, .int .i64 y], .agg [.int .i64 u, .int .i64 v], .int .i64 b] : List AVal), Sm qSm) : ∃ N n, ∀ α (k : AOut → Option α), evFn real tab ((twY fnR9 spL).env real tab N n) N Tryz.f77 α [.agg [.int .i64 cx, .int .i64 cy, .int .i64 sd, .int .i64 w, .int .i64 h, .ro (.int .i64) pb, .ro (.int .i64) po], .agg [.int .i64 x, .int .i64 y], .agg [.int .i64 u, .int .i64 v], .int .i64 b] k = bif twB cx cy sd w h pb po x y u v && grnB b then k (icO cx cy sd w h pb (chgL (fun i => toB cx cy sd w x y u v i) (fun i => moreV i b) po)) else k (icN) := by
  refine ⟨65537, 8, fun α k => (rsweep_text 65537 0 α cx cy sd w h pb po x y u v b k).trans ?_⟩
  unfold twB grnB
  cases hI : iceB cx cy sd w h pb po
  · rfl
  cases hp : plcB x y
  · rfl
  cases hq : plcB u v
  · rfl
  cases decide (0 ≤ b)
  · rfl
  cases decide (b ≤ 1000)
  · rfl
  have g := ice_is _ _ _ _ _ _ _ hI
  have l1 := list_ok g.fw g.fh g.pl
  have l2 := list_ok g.fw g.fh g.ol
  obtain ⟨c1, c2⟩ := cels_le g.fw g.fh
  have hol := g.ol
  simp only [Bool.not_true, Bool.and_self, cond_true, cond_false]
  rw [cop2_pos l1.2 l2.2, List.nil_append, List.nil_append, hI]
  rw [rtd_loop _ (toB cx cy sd w x y u v) (n := cels w h) (by rw [i64_in (w * h) (by omega)]; exact c2) c1 (fun i hi => by rw [decide_eq_true (show (0 : Int) ≤ i by omega), decide_eq_true (show (i : Int) < w * h by omega)]; rfl) _ (by omega), if_pos rfl]
  rw [rs_loop (fun i => toB cx cy sd w x y u v i) _ pb po (n := cels w h) (by omega) c1 _ (by omega), if_pos rfl]
noncomputable def rsweepS : Fsp := fun _ args k => match args with
  | [.agg [.int .i64 cx, .int .i64 cy, .int .i64 sd, .int .i64 w, .int .i64 h, .ro (.int .i64) pb, .ro (.int .i64) po], .agg [.int .i64 x, .int .i64 y], .agg [.int .i64 u, .int .i64 v], .int .i64 b] => bif twB cx cy sd w h pb po x y u v && grnB b then k (icO cx cy sd w h pb (chgL (fun i => toB cx cy sd w x y u v i) (fun i => moreV i b) po)) else k (icN)
  | _ => none
theorem rsweepS_ok : FspOk Tryz.prog 77 rsweepS := tower_Y fnR9_ok spL_ok ⟨Tryz.func77, fun _ _ => by kernel_rfl⟩ (by intro α args k; unfold rsweepS; split <;> simp only [cond_bind, Option.bind_some, Option.bind_none]) fun args out hSm hEq => by
  unfold rsweepS at hEq
  split at hEq
  · rename_i cx cy sd w h pb po x y u v b
    obtain ⟨N, n, e⟩ := rsweep_fin cx cy sd w h pb po x y u v b hSm
    exact ⟨N, n, (e AOut some).trans hEq⟩
  · cases hEq
noncomputable def rpassTS : Fsp := fun _ args k => match args with
  | [.agg [.int .i64 cx, .int .i64 cy, .int .i64 sd, .int .i64 w, .int .i64 h, .ro (.int .i64) pb, .ro (.int .i64) po], .agg [.int .i64 fl, .int .i64 ke, .int .i64 sw, .int .i64 be, .int .i64 we], .agg [.int .i64 x, .int .i64 y], .agg [.int .i64 u, .int .i64 v]] => k (icT (pasB cx cy sd w h pb po fl ke sw be we x y u v) cx cy sd w h (chgL (fun i => toB cx cy sd w x y u v i) (fun i => wornV i we) pb) po)
  | _ => none
theorem rpassTS_ok : FspOk Tryz.prog 76 rpassTS := fsp_sim rpassS_ok (by intro α args k; unfold rpassTS; split <;> rfl) fun args out hq => by
  unfold rpassTS at hq
  split at hq
  · rename_i cx cy sd w h pb po fl ke sw be we x y u v
    cases hq
    obtain ⟨v1, v2, e1, e2, e3⟩ := ic_tot (pasB cx cy sd w h pb po fl ke sw be we x y u v) cx cy sd w h (chgL (fun i => toB cx cy sd w x y u v i) (fun i => wornV i we) pb) po
    refine ⟨v1, v2, e1, ?_, e3⟩
    rw [← e2]
    rfl
  · cases hq
noncomputable def rsweepTS : Fsp := fun _ args k => match args with
  | [.agg [.int .i64 cx, .int .i64 cy, .int .i64 sd, .int .i64 w, .int .i64 h, .ro (.int .i64) pb, .ro (.int .i64) po], .agg [.int .i64 x, .int .i64 y], .agg [.int .i64 u, .int .i64 v], .int .i64 b] => k (icT (twB cx cy sd w h pb po x y u v && grnB b) cx cy sd w h pb (chgL (fun i => toB cx cy sd w x y u v i) (fun i => moreV i b) po))
  | _ => none
theorem rsweepTS_ok : FspOk Tryz.prog 77 rsweepTS := fsp_sim rsweepS_ok (by intro α args k; unfold rsweepTS; split <;> rfl) fun args out hq => by
  unfold rsweepTS at hq
  split at hq
  · rename_i cx cy sd w h pb po x y u v b
    cases hq
    obtain ⟨v1, v2, e1, e2, e3⟩ := ic_tot (twB cx cy sd w h pb po x y u v && grnB b) cx cy sd w h pb (chgL (fun i => toB cx cy sd w x y u v i) (fun i => moreV i b) po)
    refine ⟨v1, v2, e1, ?_, e3⟩
    rw [← e2]
    rfl
  · cases hq
end Go.Proofs.YtgpljldfbhkdlaaGreat
