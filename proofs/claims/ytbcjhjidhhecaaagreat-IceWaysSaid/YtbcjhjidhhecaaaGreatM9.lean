/- Parts of the proof, in build order. -/
import Derived.Test.YtbcjhjidhhecaaaGreatM8
import Derived.Test.YtbcjhjidhhecaaaGreatM6
/- Ice: the cells that a way touches. -/
namespace Go.Proofs.YtbcjhjidhhecaaaGreat
open Go.RowKit

--AT fsI7 spL
--TEXT band | twT fsI7 spL | 8 | besom/ice.band | (co sd many a b : Int) | $I{co}, $I{sd}, $I{many}, $I{a}, $I{b}
--KEY 270e1e7021
set_option maxRecDepth 100000 in
theorem band_text (N n0 : Nat) (α : Type) (co sd many a b : Int) (k : AOut → Option α) : evFn real tab ((twT fsI7 spL).env real tab N (n0 + 8)) N Tryz.f110 α [.int .i64 co, .int .i64 sd, .int .i64 many, .int .i64 a, .int .i64 b] k =
  bif decide (IntKind.i64.wrap ((if a < b then b else a) - co) < 0) then
    k (AOut.ret (AVal.tup [AVal.int IntKind.i64 0, AVal.int IntKind.i64 (-1)]))
  else
    bif decide (IntKind.i64.wrap ((if b < a then b else a) - co) > IntKind.i64.wrap (many * sd)) then
      k (AOut.ret (AVal.tup [AVal.int IntKind.i64 0, AVal.int IntKind.i64 (-1)]))
    else
      if sd = 0 then none
      else
        if sd = 0 then none
        else
          k
            (AOut.ret
              (AVal.tup
                [AVal.int IntKind.i64
                    (if
                        0 <
                          IntKind.i64.wrap
                            (IntKind.i64.wrap ((IntKind.i64.wrap ((if b < a then b else a) - co)).tdiv sd) - 1) then
                      IntKind.i64.wrap (IntKind.i64.wrap ((IntKind.i64.wrap ((if b < a then b else a) - co)).tdiv sd) - 1)
                    else 0),
                  AVal.int IntKind.i64
                    (if
                        IntKind.i64.wrap ((IntKind.i64.wrap ((if a < b then b else a) - co)).tdiv sd) <
                          IntKind.i64.wrap (many - 1) then
                      IntKind.i64.wrap ((IntKind.i64.wrap ((if a < b then b else a) - co)).tdiv sd)
                    else IntKind.i64.wrap (many - 1))])) := by kernel_rfl
--END
def bdO (co sd many a b : Int) : Bool := decide (mx a b - co < 0) || decide (mn a b - co > many * sd)
def bdF (co sd many a b : Int) : Int := bif bdO co sd many a b then 0 else (if 0 < (mn a b - co).tdiv sd - 1 then (mn a b - co).tdiv sd - 1 else 0)
def bdT (co sd many a b : Int) : Int := bif bdO co sd many a b then -1 else (if (mx a b - co).tdiv sd < many - 1 then (mx a b - co).tdiv sd else many - 1)
def bdB (co sd many a b : Int) : Bool := (decide (-6553600000 ≤ co) && decide (co ≤ 6553600000)) && (decide (1 ≤ sd) && decide (sd ≤ 6553600000)) && (decide (1 ≤ many) && decide (many ≤ 256)) && (decide (-6553600000 ≤ a) && decide (a ≤ 6553600000)) && (decide (-6553600000 ≤ b) && decide (b ≤ 6553600000))
theorem mx_in {a b B : Int} (ha : -B ≤ a ∧ a ≤ B) (hb : -B ≤ b ∧ b ≤ B) : (-B ≤ mx a b ∧ mx a b ≤ B) ∧ -B ≤ mn a b ∧ mn a b ≤ B := by
  unfold mx mn
  constructor <;> split <;> omega
theorem tdiv_in {a sd B : Int} (ha : -B ≤ a ∧ a ≤ B) (hs : 1 ≤ sd) : -B ≤ a.tdiv sd ∧ a.tdiv sd ≤ B := by
  rcases Int.le_total 0 a with h | h
  · rw [Int.tdiv_eq_ediv_of_nonneg h]
    have a1 := Int.ediv_nonneg h (show 0 ≤ sd by omega)
    have a2 : a / sd ≤ a := Int.ediv_le_self sd h
    omega
  · have e : a.tdiv sd = -((-a) / sd) := by
      rw [← Int.tdiv_eq_ediv_of_nonneg (show 0 ≤ -a by omega), Int.neg_tdiv, Int.neg_neg]
    have a1 := Int.ediv_nonneg (show 0 ≤ -a by omega) (show 0 ≤ sd by omega)
    have a2 : (-a) / sd ≤ -a := Int.ediv_le_self sd (by omega)
    omega
--FIN band | besom/ice.band | (co sd many a b : Int) | $I{co}, $I{sd}, $I{many}, $I{a}, $I{b} | .ret (.tup [.int .i64 (bdF co sd many a b), .int .i64 (bdT co sd many a b)]) | bdB co sd many a b
theorem band_fin (co sd many a b : Int) (hs : ∀ qSm ∈ ([.int .i64 co, .int .i64 sd, .int .i64 many, .int .i64 a, .int .i64 b] : List AVal), Sm qSm) (hCo : (bdB co sd many a b) = true) : ∃ N n, ∀ α (k : AOut → Option α), evFn real tab ((twT fsI7 spL).env real tab N n) N Tryz.f110 α [.int .i64 co, .int .i64 sd, .int .i64 many, .int .i64 a, .int .i64 b] k = k (.ret (.tup [.int .i64 (bdF co sd many a b), .int .i64 (bdT co sd many a b)])) := by
  simp only [bdB, Bool.and_eq_true, decide_eq_true_eq] at hCo
  obtain ⟨⟨⟨⟨h1, h2⟩, h3⟩, h4⟩, h5⟩ := hCo
  refine ⟨8, 8, fun α k => (band_text 8 0 α co sd many a b k).trans ?_⟩
  obtain ⟨m1, m2⟩ := mx_in h4 h5
  have mm := mul_in (a := many) (b := sd) (A := 256) (B := 6553600000) ⟨by omega, by omega⟩ ⟨by omega, by omega⟩
  show (bif decide (IntKind.i64.wrap (mx a b - co) < 0) then k _ else bif decide (IntKind.i64.wrap (mn a b - co) > IntKind.i64.wrap (many * sd)) then k _ else if sd = 0 then none else if sd = 0 then none else k (.ret (.tup [.int .i64 (if 0 < IntKind.i64.wrap (IntKind.i64.wrap ((IntKind.i64.wrap (mn a b - co)).tdiv sd) - 1) then IntKind.i64.wrap (IntKind.i64.wrap ((IntKind.i64.wrap (mn a b - co)).tdiv sd) - 1) else 0), .int .i64 (if IntKind.i64.wrap ((IntKind.i64.wrap (mx a b - co)).tdiv sd) < IntKind.i64.wrap (many - 1) then IntKind.i64.wrap ((IntKind.i64.wrap (mx a b - co)).tdiv sd) else IntKind.i64.wrap (many - 1))]))) = _
  have q1 := tdiv_in (a := mn a b - co) (B := 13107200000) ⟨by omega, by omega⟩ h2.1
  have q2 := tdiv_in (a := mx a b - co) (B := 13107200000) ⟨by omega, by omega⟩ h2.1
  rw [i64_in (mx a b - co) (by omega), i64_in (mn a b - co) (by omega), i64_in (many * sd) (by omega), i64_in ((mn a b - co).tdiv sd) (by omega), i64_in ((mx a b - co).tdiv sd) (by omega), i64_in ((mn a b - co).tdiv sd - 1) (by omega), i64_in (many - 1) (by omega), if_neg (by omega), if_neg (by omega)]
  unfold bdF bdT bdO
  cases decide (mx a b - co < 0)
  · cases decide (mn a b - co > many * sd) <;> rfl
  · rfl
--CON band
noncomputable def bandS : Fsp := fun _ args k => match args with
  | [.int .i64 co, .int .i64 sd, .int .i64 many, .int .i64 a, .int .i64 b] => bif bdB co sd many a b then k (.ret (.tup [.int .i64 (bdF co sd many a b), .int .i64 (bdT co sd many a b)])) else none
  | _ => none
theorem bandS_ok : FspOk Tryz.prog 110 bandS := tower_S fsI7_ok spL_ok ⟨Tryz.func110, fun _ _ => by kernel_rfl⟩ (by intro α args k; unfold bandS; split <;> simp only [cond_bind, Option.bind_some, Option.bind_none]) fun args out hSm hEq => by
  unfold bandS at hEq
  split at hEq
  · rename_i co sd many a b
    cases hc : bdB co sd many a b
    · rw [hc] at hEq; cases hEq
    · rw [hc] at hEq
      obtain ⟨N, n, e⟩ := band_fin co sd many a b hSm hc
      exact ⟨N, n, (e AOut some).trans hEq⟩
  · cases hEq
--END
--FS fsI8 | fsI7 | band
noncomputable def fsI8 : FuncId → Option Fsp := fun g =>
  if g = 110 then some bandS else
  fsI7 g
theorem fsI8_ok : FsOk fsI8 :=
  fs_cons bandS_ok <|
  fsI7_ok
--END

/-! The cells that a way touches, in their order. -/
theorem bd_in {co sd many a b : Int} (hb : bdB co sd many a b = true) : 0 ≤ bdF co sd many a b ∧ bdF co sd many a b ≤ bdT co sd many a b + 1 ∧ bdT co sd many a b < many := by
  simp only [bdB, Bool.and_eq_true, decide_eq_true_eq] at hb
  obtain ⟨⟨⟨⟨h1, h2⟩, h3⟩, h4⟩, h5⟩ := hb
  unfold bdF bdT
  cases ho : bdO co sd many a b
  · unfold bdO at ho
    simp only [Bool.or_eq_false_iff, decide_eq_false_iff_not] at ho
    have hmm : mn a b ≤ mx a b := by unfold mn mx; split <;> split <;> omega
    simp only [cond_false]
    have t1 : (mx a b - co).tdiv sd = (mx a b - co) / sd := Int.tdiv_eq_ediv_of_nonneg (by omega)
    have t2 := Int.ediv_nonneg (show 0 ≤ mx a b - co by omega) (show 0 ≤ sd by omega)
    have t3 : (mn a b - co).tdiv sd ≤ (mx a b - co) / sd ∧ (mn a b - co).tdiv sd ≤ many := by
      rcases Int.le_total 0 (mn a b - co) with h | h
      · rw [Int.tdiv_eq_ediv_of_nonneg h]
        exact ⟨Int.ediv_le_ediv (by omega) (by omega), Int.ediv_le_of_le_mul (by omega) (by omega)⟩
      · have e : (mn a b - co).tdiv sd = -((-(mn a b - co)) / sd) := by
          rw [← Int.tdiv_eq_ediv_of_nonneg (show 0 ≤ -(mn a b - co) by omega), Int.neg_tdiv, Int.neg_neg]
        have := Int.ediv_nonneg (show 0 ≤ -(mn a b - co) by omega) (show 0 ≤ sd by omega)
        omega
    rw [t1]
    generalize (mx a b - co) / sd = A at *
    generalize (mn a b - co).tdiv sd = B at *
    refine ⟨?_, ?_, ?_⟩
    · split <;> omega
    · split <;> split <;> omega
    · split <;> omega
  · simp only [cond_true]
    omega
/-- Where a cell is touched, its column (or row) is within the band. -/
theorem bd_hit {co sd many a b p : Int} (hs : 1 ≤ sd) (h0 : 0 ≤ p) (h1 : p < many) (l1 : co + p * sd ≤ mx a b) (l2 : mn a b ≤ co + p * sd + sd) : bdF co sd many a b ≤ p ∧ p ≤ bdT co sd many a b := by
  have e0 : 0 ≤ p * sd := Int.mul_nonneg h0 (by omega)
  have e1 : (p + 1) * sd ≤ many * sd := Int.mul_le_mul_of_nonneg_right (by omega) (by omega)
  rw [Int.add_mul, Int.one_mul] at e1
  unfold bdF bdT
  have ho : bdO co sd many a b = false := by
    unfold bdO
    rw [decide_eq_false (by omega), decide_eq_false (by omega)]; rfl
  rw [ho]
  simp only [cond_false]
  have t1 : (mx a b - co).tdiv sd = (mx a b - co) / sd := Int.tdiv_eq_ediv_of_nonneg (by omega)
  have t2 : p ≤ (mx a b - co) / sd := Int.le_ediv_of_mul_le (by omega) (by omega)
  have t3 : (mn a b - co).tdiv sd ≤ p + 1 := by
    rcases Int.le_total 0 (mn a b - co) with h | h
    · rw [Int.tdiv_eq_ediv_of_nonneg h]
      refine Int.ediv_le_of_le_mul (by omega) ?_
      rw [Int.add_mul, Int.one_mul]; omega
    · have e : (mn a b - co).tdiv sd = -((-(mn a b - co)) / sd) := by
        rw [← Int.tdiv_eq_ediv_of_nonneg (show 0 ≤ -(mn a b - co) by omega), Int.neg_tdiv, Int.neg_neg]
      have := Int.ediv_nonneg (show 0 ≤ -(mn a b - co) by omega) (show 0 ≤ sd by omega)
      omega
  rw [t1]
  constructor
  · split <;> omega
  · split <;> omega

section
variable {τ α : Type}
/-- What is done with each cell for which something holds, in their order. -/
def foldC (hit : Nat → Bool) (upd : Nat → τ → τ) (t0 : τ) : Nat → τ
  | 0 => t0
  | n + 1 => bif hit n then upd n (foldC hit upd t0 n) else foldC hit upd t0 n
theorem foldC_skip (hit : Nat → Bool) (upd : Nat → τ → τ) (t0 : τ) (a : Nat) : ∀ n, (∀ i, a ≤ i → i < a + n → hit i = false) → foldC hit upd t0 (a + n) = foldC hit upd t0 a
  | 0, _ => rfl
  | n + 1, h => by
    show foldC hit upd t0 ((a + n) + 1) = _
    simp only [foldC]
    rw [h (a + n) (by omega) (by omega)]
    exact foldC_skip hit upd t0 a n fun i h1 h2 => h i h1 (by omega)

/-- The program's loops over the cells that a way touches; what is done with one is left open. -/
def touL (N : Nat) (bf bt cf ct w : Int) (dom hit : Int → Bool) (body : (β : Type) → Int → τ → (τ → Option β) → Option β) (t0 : τ) (K : τ → Option α) : Option α :=
  afterL
    (iterL N
      (fun z : Int × τ =>
        bif decide (z.1 ≤ bt) then
          afterL
            (iterL N
              (fun v : Int × τ =>
                bif decide (v.1 ≤ ct) then
                  bif dom (IntKind.i64.wrap (IntKind.i64.wrap (z.1 * w) + v.1)) then
                    bif hit (IntKind.i64.wrap (IntKind.i64.wrap (z.1 * w) + v.1)) then
                      body _ (IntKind.i64.wrap (IntKind.i64.wrap (z.1 * w) + v.1)) v.2 fun t => some (LRes.cont (IntKind.i64.wrap (v.1 + 1), t))
                    else some (LRes.cont (IntKind.i64.wrap (v.1 + 1), v.2))
                  else none
                else some (LRes.brk 2 (v.1, v.2)))
              (cf, z.2))
            fun id y => if id = 2 then some (LRes.cont (IntKind.i64.wrap (z.1 + 1), y.2)) else none
        else some (LRes.brk 0 (z.1, z.2)))
      (bf, t0))
    fun id y => if id = 0 then K y.2 else none
theorem touL_eq (W H : Nat) (hW : 1 ≤ W ∧ W ≤ 256) (hH : 1 ≤ H ∧ H ≤ 256) {bf bt cf ct : Int} (b0 : 0 ≤ bf) (b1 : bf ≤ bt + 1) (b2 : bt < H) (c0 : 0 ≤ cf) (c1 : cf ≤ ct + 1) (c2 : ct < W) {dom hit : Int → Bool}
    (hd : ∀ n : Nat, n < W * H → dom n = true) (hh : ∀ n : Nat, n < W * H → hit n = true → (cf ≤ ((n % W : Nat) : Int) ∧ ((n % W : Nat) : Int) ≤ ct) ∧ bf ≤ ((n / W : Nat) : Int) ∧ ((n / W : Nat) : Int) ≤ bt)
    (body : (β : Type) → Int → τ → (τ → Option β) → Option β) (upd : Nat → τ → τ) (t0 : τ)
    (hb : ∀ (β : Type) (n : Nat) (k : τ → Option β), n < W * H → hit n = true → body β n (foldC (fun n => hit n) upd t0 n) k = k (upd n (foldC (fun n => hit n) upd t0 n))) (K : τ → Option α) {N : Nat} (hN : 300 < N) :
    touL N bf bt cf ct W dom hit body t0 K = K (foldC (fun n => hit n) upd t0 (W * H)) := by
  let F := foldC (fun n : Nat => hit n) upd t0
  have hF1 : ∀ n : Nat, F (n + 1) = bif hit n then upd n (F n) else F n := fun n => rfl
  have skip : ∀ a b : Nat, a ≤ b → b ≤ W * H → (∀ i, a ≤ i → i < b → hit i = false) → F b = F a := fun a b hab _ h => by
    have := foldC_skip (fun n : Nat => hit n) upd t0 a (b - a) fun i h1 h2 => h i h1 (by omega)
    rwa [show a + (b - a) = b by omega] at this
  obtain ⟨B, rfl⟩ := Int.eq_ofNat_of_zero_le b0
  obtain ⟨C, rfl⟩ := Int.eq_ofNat_of_zero_le c0
  obtain ⟨D, hD⟩ := Int.eq_ofNat_of_zero_le (show 0 ≤ bt + 1 by omega)
  obtain ⟨E, hE⟩ := Int.eq_ofNat_of_zero_le (show 0 ≤ ct + 1 by omega)
  have nohit : ∀ n : Nat, n < W * H → (n % W < C ∨ E ≤ n % W ∨ n / W < B ∨ D ≤ n / W) → hit n = false := fun n hn h => by
    cases hq : hit n
    · rfl
    · have := hh n hn hq; omega
  have hWH : W * H ≤ 65536 := by
    have := Nat.mul_le_mul hW.2 hH.2; omega
  have row : ∀ y : Nat, y < H → (y + 1) * W ≤ W * H := fun y hy => by
    rw [Nat.mul_comm W H]; exact Nat.mul_le_mul_right W hy
  have dm : ∀ y i : Nat, i < W → (y * W + i) % W = i ∧ (y * W + i) / W = y := fun y i hi => by
    constructor
    · rw [Nat.mul_comm, Nat.mul_add_mod, Nat.mod_eq_of_lt hi]
    · rw [Nat.mul_comm, Nat.mul_add_div (by omega), Nat.div_eq_of_lt hi]; omega
  -- a row
  have inner : ∀ y : Nat, y < H → B ≤ y → y < D → ∀ (KK : Nat → Int × τ → Option (LRes (Int × τ) α)),
      afterL (iterL N (fun v : Int × τ =>
        bif decide (v.1 ≤ ct) then
          bif dom (IntKind.i64.wrap (IntKind.i64.wrap ((y : Int) * W) + v.1)) then
            bif hit (IntKind.i64.wrap (IntKind.i64.wrap ((y : Int) * W) + v.1)) then
              body _ (IntKind.i64.wrap (IntKind.i64.wrap ((y : Int) * W) + v.1)) v.2 fun t => some (LRes.cont (IntKind.i64.wrap (v.1 + 1), t))
            else some (LRes.cont (IntKind.i64.wrap (v.1 + 1), v.2))
          else none
        else some (LRes.brk 2 (v.1, v.2))) ((C : Int), F (y * W))) KK = KK 2 ((E : Int), F ((y + 1) * W)) := fun y hy hy1 hy2 KK => by
    have r1 := row y hy
    rw [Nat.add_mul, Nat.one_mul] at r1
    have s1 : F (y * W + C) = F (y * W) := skip _ _ (by omega) (by omega) fun i h1 h2 => nohit i (by omega) (.inl (by
      have := (dm y (i - y * W) (by omega)).1
      rw [show y * W + (i - y * W) = i by omega] at this; omega))
    have s2 : F ((y + 1) * W) = F (y * W + E) := skip _ _ (by rw [Nat.add_mul, Nat.one_mul]; omega) (row y hy) fun i h1 h2 => nohit i (by rw [Nat.add_mul, Nat.one_mul] at h2; omega) (.inr (.inl (by
      rw [Nat.add_mul, Nat.one_mul] at h2
      have := (dm y (i - y * W) (by omega)).1
      rw [show y * W + (i - y * W) = i by omega] at this; omega)))
    rw [← s1, s2]
    have key := count_loop (f := fun v : Int × τ =>
        bif decide (v.1 ≤ ct) then
          bif dom (IntKind.i64.wrap (IntKind.i64.wrap ((y : Int) * W) + v.1)) then
            bif hit (IntKind.i64.wrap (IntKind.i64.wrap ((y : Int) * W) + v.1)) then
              body _ (IntKind.i64.wrap (IntKind.i64.wrap ((y : Int) * W) + v.1)) v.2 fun t => some (LRes.cont (IntKind.i64.wrap (v.1 + 1), t))
            else some (LRes.cont (IntKind.i64.wrap (v.1 + 1), v.2))
          else none
        else some (LRes.brk 2 (v.1, v.2))) (K := KK) (fun i : Nat => (((C + i : Nat) : Int), F (y * W + C + i))) (E - C) (b := 2) (y := ((E : Int), F (y * W + E))) (fun i hi => ?_) ?_ (N := N) (by omega)
    · exact key
    · have e1 : IntKind.i64.wrap (IntKind.i64.wrap ((y : Int) * W) + ((C + i : Nat) : Int)) = ((y * W + C + i : Nat) : Int) := by
        have e0 : ((y : Int) * W) = ((y * W : Nat) : Int) := by simp
        rw [e0, i64_in ((y * W : Nat) : Int) (by omega), i64_in _ (by omega)]; omega
      have e2 : IntKind.i64.wrap (((C + i : Nat) : Int) + 1) = ((C + (i + 1) : Nat) : Int) := by rw [i64_in _ (by omega)]; omega
      simp only [e1, e2, decide_eq_true (show ((C + i : Nat) : Int) ≤ ct by omega), cond_true, hd (y * W + C + i) (by omega)]
      have e3 := hF1 (y * W + C + i)
      rw [show y * W + C + (i + 1) = y * W + C + i + 1 by omega, e3]
      cases hq : hit ((y * W + C + i : Nat) : Int)
      · rfl
      · rw [cond_true, hb _ (y * W + C + i) _ (by omega) hq]
        rfl
    · simp only [decide_eq_false (show ¬ ((C + (E - C) : Nat) : Int) ≤ ct by omega), cond_false]
      rw [show C + (E - C) = E by omega, show y * W + C + (E - C) = y * W + E by omega]
  have o1 : F (B * W) = t0 := by
    have : F (B * W) = F 0 := by
      have : B ≤ H := by omega
      have hb2 : B * W ≤ W * H := by rw [Nat.mul_comm W H]; exact Nat.mul_le_mul_right W this
      exact skip 0 (B * W) (by omega) hb2 fun i _ h2 => nohit i (by omega) (.inr (.inr (.inl (Nat.div_lt_of_lt_mul (by rw [Nat.mul_comm]; exact h2)))))
    exact this
  have o2 : F (W * H) = F (D * W) := by
    have : D ≤ H := by omega
    have hb2 : D * W ≤ W * H := by rw [Nat.mul_comm W H]; exact Nat.mul_le_mul_right W this
    exact skip (D * W) (W * H) hb2 (Nat.le_refl _) fun i h1 h2 => nohit i h2 (.inr (.inr (.inr ((Nat.le_div_iff_mul_le (by omega)).2 h1))))
  show touL N B bt C ct W dom hit body t0 K = K (F (W * H))
  rw [o2, ← o1]
  unfold touL
  have key := count_loop (f := fun z : Int × τ =>
        bif decide (z.1 ≤ bt) then
          afterL
            (iterL N
              (fun v : Int × τ =>
                bif decide (v.1 ≤ ct) then
                  bif dom (IntKind.i64.wrap (IntKind.i64.wrap (z.1 * W) + v.1)) then
                    bif hit (IntKind.i64.wrap (IntKind.i64.wrap (z.1 * W) + v.1)) then
                      body _ (IntKind.i64.wrap (IntKind.i64.wrap (z.1 * W) + v.1)) v.2 fun t => some (LRes.cont (IntKind.i64.wrap (v.1 + 1), t))
                    else some (LRes.cont (IntKind.i64.wrap (v.1 + 1), v.2))
                  else none
                else some (LRes.brk 2 (v.1, v.2)))
              ((C : Int), z.2))
            fun id y => if id = 2 then some (LRes.cont (IntKind.i64.wrap (z.1 + 1), y.2)) else none
        else some (LRes.brk 0 (z.1, z.2))) (K := fun id y => if id = 0 then K y.2 else none) (fun j : Nat => (((B + j : Nat) : Int), F ((B + j) * W))) (D - B) (b := 0) (y := ((D : Int), F (D * W))) (fun j hj => ?_) ?_ (N := N) (by omega)
  · exact key
  · simp only [decide_eq_true (show ((B + j : Nat) : Int) ≤ bt by omega), cond_true]
    rw [inner (B + j) (by omega) (by omega) (by omega), if_pos rfl]
    rw [i64_in _ (by omega), show ((B + j : Nat) : Int) + 1 = ((B + (j + 1) : Nat) : Int) by omega]
    rfl
  · simp only [decide_eq_false (show ¬ ((B + (D - B) : Nat) : Int) ≤ bt by omega), cond_false]
    rw [show B + (D - B) = D by omega]
end
--AT fsI8 spL twY
def isC (cx cy sd w h : Int) (pb po : List Int) (x y u v c : Int) : Bool := iceB cx cy sd w h pb po && (plcB x y && plcB u v) && (decide (0 ≤ c) && decide (c < w * h))
def appC : (β : Type) → Int → List Int × Unit → (List Int × Unit → Option β) → Option β := fun _ c t k => if (t.1.length + [c].length) * 8 ≤ room then k (t.1 ++ [c], ()) else none
theorem itouched_text (N n0 : Nat) (α : Type) (cx cy sd w h : Int) (pb po : List Int) (x y u v : Int) (k : AOut → Option α) : evFn real tab ((twY fsI8 spL).env real tab N (n0 + 8)) N Tryz.f21 α [.agg [.int .i64 cx, .int .i64 cy, .int .i64 sd, .int .i64 w, .int .i64 h, .ro (.int .i64) pb, .ro (.int .i64) po], .agg [.int .i64 x, .int .i64 y], .agg [.int .i64 u, .int .i64 v]] k =
    bif er2 (iceB cx cy sd w h pb po) != 0 then k (.ret (.tup [.ro (.int .i64) [], iN 2]))
    else bif !!([(x, y, ()), (u, v, ())].any offS) then k (.ret (.tup [.ro (.int .i64) [], iN 2]))
    else bif bdB cx sd w x u then bif bdB cy sd h y v then
      touL N (bdF cy sd h y v) (bdT cy sd h y v) (bdF cx sd w x u) (bdT cx sd w x u) w (isC cx cy sd w h pb po x y u v) (toB cx cy sd w x y u v) appC ([], ()) fun t => k (.ret (.tup [.ro (.int .i64) t.1, iN 0]))
    else none else none := by kernel_rfl
end Go.Proofs.YtbcjhjidhhecaaaGreat

/- Ice: the cells that a way touches, in a row. -/
namespace Go.Proofs.YtbcjhjidhhecaaaGreat
open Go.RowKit

/-- Those numbers below n for which something holds. -/
def whL (hit : Nat → Bool) (n : Nat) : List Int := ((List.range n).filter hit).map (fun i : Nat => (i : Int))
theorem whL_succ (hit : Nat → Bool) (n : Nat) : whL hit (n + 1) = whL hit n ++ (bif hit n then [(n : Int)] else []) := by
  unfold whL
  rw [List.range_succ, List.filter_append, List.map_append]
  cases h : hit n <;> simp [List.filter_cons, h]
theorem whL_len (hit : Nat → Bool) (n : Nat) : (whL hit n).length ≤ n := by
  unfold whL
  rw [List.length_map]
  exact Nat.le_trans (List.length_filter_le _ _) (by simp)
theorem fold_app (hit : Nat → Bool) : ∀ n, foldC hit (fun n (t : List Int × Unit) => (t.1 ++ [(n : Int)], ())) ([], ()) n = (whL hit n, ())
  | 0 => rfl
  | n + 1 => by
    simp only [foldC]
    rw [fold_app hit n, whL_succ]
    cases hit n <;> simp
def cels (w h : Int) : Nat := (w * h).toNat
def twB (cx cy sd w h : Int) (pb po : List Int) (x y u v : Int) : Bool := iceB cx cy sd w h pb po && (plcB x y && plcB u v)
def tchL (cx cy sd w h x y u v : Int) : List Int := whL (fun n => toB cx cy sd w x y u v n) (cels w h)
def tcV (cx cy sd w h : Int) (pb po : List Int) (x y u v : Int) : List Int := bif twB cx cy sd w h pb po x y u v then tchL cx cy sd w h x y u v else []
theorem any_off2 (x y u v : Int) : [(x, y, ()), (u, v, ())].any offS = !(plcB x y && plcB u v) := by simp [offS]
theorem bd_of {co sd many a b : Int} (h1 : -6553600000 ≤ co ∧ co ≤ 6553600000) (h2 : 1 ≤ sd ∧ sd ≤ 6553600000) (h3 : 1 ≤ many ∧ many ≤ 256) (h4 : -6553600000 ≤ a ∧ a ≤ 6553600000) (h5 : -6553600000 ≤ b ∧ b ≤ 6553600000) : bdB co sd many a b = true := by
  simp only [bdB, Bool.and_eq_true, decide_eq_true_eq]
  exact ⟨⟨⟨⟨h1, h2⟩, h3⟩, h4⟩, h5⟩
/-- The loops over the cells that a way touches. -/
theorem tou_ice {τ α : Type} (cx cy sd w h : Int) (pb po : List Int) (x y u v : Int) (hb : twB cx cy sd w h pb po x y u v = true) (body : (β : Type) → Int → τ → (τ → Option β) → Option β) (upd : Nat → τ → τ) (t0 : τ)
    (hbd : ∀ (β : Type) (n : Nat) (k : τ → Option β), n < cels w h → body β n (foldC (fun n => toB cx cy sd w x y u v n) upd t0 n) k = k (upd n (foldC (fun n => toB cx cy sd w x y u v n) upd t0 n))) (K : τ → Option α) {N : Nat} (hN : 300 < N) :
    touL N (bdF cy sd h y v) (bdT cy sd h y v) (bdF cx sd w x u) (bdT cx sd w x u) w (isC cx cy sd w h pb po x y u v) (toB cx cy sd w x y u v) body t0 K = K (foldC (fun n => toB cx cy sd w x y u v n) upd t0 (cels w h)) := by
  have hb' := hb
  simp only [twB, Bool.and_eq_true, plc_iff] at hb'
  obtain ⟨hI, hp, hq⟩ := hb'
  have g := ice_is _ _ _ _ _ _ _ hI
  have gw := g.fw; have gh := g.fh; have gs := g.fs; have gc := g.fc
  obtain ⟨b0, b1, b2⟩ := bd_in (bd_of gc.2 gs gh hp.2 hq.2)
  obtain ⟨c0, c1, c2⟩ := bd_in (bd_of gc.1 gs gw hp.1 hq.1)
  obtain ⟨W, rfl⟩ := Int.eq_ofNat_of_zero_le (show 0 ≤ w by omega)
  obtain ⟨H, rfl⟩ := Int.eq_ofNat_of_zero_le (show 0 ≤ h by omega)
  have hc : cels W H = W * H := by unfold cels; omega
  have hlt : ∀ n : Nat, n < W * H → (n : Int) < (W : Int) * H := fun n hn => by
    have : ((n : Nat) : Int) < ((W * H : Nat) : Int) := by omega
    rwa [Int.natCast_mul] at this
  rw [hc]
  refine touL_eq W H ⟨by omega, by omega⟩ ⟨by omega, by omega⟩ b0 b1 b2 c0 c1 c2 (fun n hn => ?_) (fun n hn hh => ?_) body upd t0 (fun β n k hn _ => hbd β n k (by rw [hc]; exact hn)) K hN
  · unfold isC
    unfold twB at hb
    rw [hb, decide_eq_true (show (0 : Int) ≤ n by omega), decide_eq_true (hlt n hn)]; rfl
  · obtain ⟨⟨p0, p1⟩, ⟨q0, q1⟩, _⟩ := cell_at gc gs gw gh (show (0 : Int) ≤ n by omega) (hlt n hn)
    simp only [toB, touB, Bool.and_eq_true, decide_eq_true_eq] at hh
    obtain ⟨⟨⟨a1, a2⟩, a3, a4⟩, _⟩ := hh
    have e1 : ((n % W : Nat) : Int) = (n : Int) % W := by simp
    have e2 : ((n / W : Nat) : Int) = (n : Int) / W := by simp
    rw [e1, e2]
    exact ⟨bd_hit gs.1 p0 p1 a1 a2, bd_hit gs.1 q0 q1 a3 a4⟩
theorem cels_le {w h : Int} (hw : 1 ≤ w ∧ w ≤ 256) (hh : 1 ≤ h ∧ h ≤ 256) : cels w h ≤ 65536 ∧ ((cels w h : Nat) : Int) = w * h := by
  have := mul_in (a := w) (b := h) (A := 256) (B := 256) ⟨by omega, by omega⟩ ⟨by omega, by omega⟩
  unfold cels; omega
--AT fsI8 spL twY
--FIN itouched | besom/ice.Touched | $ICB (x y u v : Int) | $ICE, $S{x y}, $S{u v} | .ret (.tup [.ro (.int .i64) (tcV $ICV x y u v), .int .i64 (er2 (twB $ICV x y u v))])
theorem itouched_fin (cx cy sd w h : Int) (pb po : List Int) (x y u v : Int) (hs : ∀ qSm ∈ ([.agg [.int .i64 cx, .int .i64 cy, .int .i64 sd, .int .i64 w, .int .i64 h, .ro (.int .i64) pb, .ro (.int .i64) po], .agg [.int .i64 x, .int .i64 y], .agg [.int .i64 u, .int .i64 v]] : List AVal), Sm qSm) : ∃ N n, ∀ α (k : AOut → Option α), evFn real tab ((twY fsI8 spL).env real tab N n) N Tryz.f21 α [.agg [.int .i64 cx, .int .i64 cy, .int .i64 sd, .int .i64 w, .int .i64 h, .ro (.int .i64) pb, .ro (.int .i64) po], .agg [.int .i64 x, .int .i64 y], .agg [.int .i64 u, .int .i64 v]] k = k (.ret (.tup [.ro (.int .i64) (tcV cx cy sd w h pb po x y u v), .int .i64 (er2 (twB cx cy sd w h pb po x y u v))])) := by
  refine ⟨301, 8, fun α k => (itouched_text 301 0 α cx cy sd w h pb po x y u v k).trans ?_⟩
  rw [celE_le, er2_0, any_off2]
  unfold tcV
  cases hb : twB cx cy sd w h pb po x y u v
  · have hb' := hb
    unfold twB at hb'
    cases hi : iceB cx cy sd w h pb po
    · rfl
    · rw [hi, Bool.true_and] at hb'
      rw [hb']; rfl
  · have hb' := hb
    simp only [twB, Bool.and_eq_true] at hb'
    obtain ⟨hI, hp, hq⟩ := hb'
    have g := ice_is _ _ _ _ _ _ _ hI
    rw [plc_iff] at hp hq
    rw [hI, (plc_iff (x := x) (y := y)).2 hp, (plc_iff (x := u) (y := v)).2 hq, bd_of g.fc.1 g.fs g.fw hp.1 hq.1, bd_of g.fc.2 g.fs g.fh hp.2 hq.2]
    simp only [Bool.not_true, Bool.not_false, Bool.and_self, cond_false, cond_true]
    rw [tou_ice cx cy sd w h pb po x y u v hb appC (fun n t => (t.1 ++ [(n : Int)], ())) ([], ()) (fun β n k' hn => ?_) _ (by omega), fold_app]
    · rfl
    · rw [fold_app]
      unfold appC
      have := whL_len (fun n => toB cx cy sd w x y u v n) n
      have c := (cels_le g.fw g.fh).1
      rw [if_pos (by simp [room]; omega)]
--CON itouched
noncomputable def itouchedS : Fsp := fun _ args k => match args with
  | [.agg [.int .i64 cx, .int .i64 cy, .int .i64 sd, .int .i64 w, .int .i64 h, .ro (.int .i64) pb, .ro (.int .i64) po], .agg [.int .i64 x, .int .i64 y], .agg [.int .i64 u, .int .i64 v]] => k (.ret (.tup [.ro (.int .i64) (tcV cx cy sd w h pb po x y u v), .int .i64 (er2 (twB cx cy sd w h pb po x y u v))]))
  | _ => none
theorem itouchedS_ok : FspOk Tryz.prog 21 itouchedS := tower_Y fsI8_ok spL_ok ⟨Tryz.func21, fun _ _ => by kernel_rfl⟩ (by intro α args k; unfold itouchedS; split <;> rfl) fun args out hSm hEq => by
  unfold itouchedS at hEq
  split at hEq
  · rename_i cx cy sd w h pb po x y u v
    obtain ⟨N, n, e⟩ := itouched_fin cx cy sd w h pb po x y u v hSm
    exact ⟨N, n, (e AOut some).trans hEq⟩
  · cases hEq
--END
--FS fsIt | fsI8 | itouched
noncomputable def fsIt : FuncId → Option Fsp := fun g =>
  if g = 21 then some itouchedS else
  fsI8 g
theorem fsIt_ok : FsOk fsIt :=
  fs_cons itouchedS_ok <|
  fsI8_ok
--END
end Go.Proofs.YtbcjhjidhhecaaaGreat

/- The laws of package ice: alive. -/
namespace Go.Proofs.YtbcjhjidhhecaaaGreat
open Go.RowKit

/-! Roots, open to evaluation. -/
def rtUpC (a how : Int) : Bool := if how = 2 then !(rtC a * rtC a == a) else if how = 3 then decide ((2 * rtC a + 1) * (2 * rtC a + 1) ≤ 4 * a) else false
def rtNC (a how : Int) : Int := rtC a + (bif rtUpC a how then 1 else 0)
def rootVC (a how : Int) : Int := bif rootB a how then (bif ngB a then 0 else fxV false (rtNC (a * 65536) how)) else 0
def rootEC (a how : Int) : Int := bif rootB a how then (bif ngB a then 11 else fxE (rtNC (a * 65536) how)) else 2
def frootCS : Fsp := fun _ args k => match args with
  | [.int .i64 x, .int .i64 how] => k (i2 (rootVC x how) (rootEC x how))
  | _ => none
theorem frootCS_ok : FspOk Tryz.prog 42 frootCS := by
  have e : frootCS = frootS := by
    unfold frootCS frootS rootVC rootEC rtNC rtUpC rootV rootE rtN rtUp
    rw [rt_C]
    rfl
  rw [e]; exact frootS_ok
--AT fsIt spL twY
abbrev pondI : AVal := .agg [iN 0, iN 0, iN 10, iN 2, iN 3, .ro (.int .i64) ([100, 200, 300, 400, 500, 600] : List Int), .ro (.int .i64) ([0, 0, 0, 0, 0, 500] : List Int)]
abbrev pondG : AVal := .agg [iN 1000, iN 500, iN 200, iN 100, iN 150]
theorem pond_text (α : Type) (k : AOut → Option α) : evFn real tab ((twY fsIt spL).env real tab 8 8) 8 Tryz.f38 α [] k = k (.ret (.tup [pondI, pondG])) := by kernel_rfl
--FIN pond | besom/besomlaw03.pond |  |  | .ret (.tup [pondI, pondG])
theorem pond_fin  (hs : ∀ qSm ∈ ([] : List AVal), Sm qSm) : ∃ N n, ∀ α (k : AOut → Option α), evFn real tab ((twY fsIt spL).env real tab N n) N Tryz.f38 α [] k = k (.ret (.tup [pondI, pondG])) := by
  exact ⟨8, 8, fun α k => pond_text α k⟩
--CON pond
noncomputable def pondS : Fsp := fun _ args k => match args with
  | [] => k (.ret (.tup [pondI, pondG]))
  | _ => none
theorem pondS_ok : FspOk Tryz.prog 38 pondS := tower_Y fsIt_ok spL_ok ⟨Tryz.func38, fun _ _ => by kernel_rfl⟩ (by intro α args k; unfold pondS; split <;> rfl) fun args out hSm hEq => by
  unfold pondS at hEq
  split at hEq
  · skip
    obtain ⟨N, n, e⟩ := pond_fin  hSm
    exact ⟨N, n, (e AOut some).trans hEq⟩
  · cases hEq
--END
--FS fsIa | fsIt | frootC=besom/fixed.Root;pond
noncomputable def fsIa : FuncId → Option Fsp := fun g =>
  if g = 42 then some frootCS else
  if g = 38 then some pondS else
  fsIt g
theorem fsIa_ok : FsOk fsIa :=
  fs_cons frootCS_ok <|
  fs_cons pondS_ok <|
  fsIt_ok
--END
--AT fsIa spL twY
set_option maxRecDepth 100000 in
theorem ialive_text (α : Type) (k : AOut → Option α) : evFn real tab ((twY fsIa spL).env real tab 302 8) 302 Tryz.f8 α [] k = k (b1 true) := by kernel_rfl
--FIN ialive | besom/besomlaw03.alive |  |  | b1 true
theorem ialive_fin  (hs : ∀ qSm ∈ ([] : List AVal), Sm qSm) : ∃ N n, ∀ α (k : AOut → Option α), evFn real tab ((twY fsIa spL).env real tab N n) N Tryz.f8 α [] k = k (b1 true) := by
  exact ⟨302, 8, fun α k => ialive_text α k⟩
--CON ialive
noncomputable def ialiveS : Fsp := fun _ args k => match args with
  | [] => k (b1 true)
  | _ => none
theorem ialiveS_ok : FspOk Tryz.prog 8 ialiveS := tower_Y fsIa_ok spL_ok ⟨Tryz.func8, fun _ _ => by kernel_rfl⟩ (by intro α args k; unfold ialiveS; split <;> rfl) fun args out hSm hEq => by
  unfold ialiveS at hEq
  split at hEq
  · skip
    obtain ⟨N, n, e⟩ := ialive_fin  hSm
    exact ⟨N, n, (e AOut some).trans hEq⟩
  · cases hEq
--END
--FS fsIb | fsIt | ialive
noncomputable def fsIb : FuncId → Option Fsp := fun g =>
  if g = 8 then some ialiveS else
  fsIt g
theorem fsIb_ok : FsOk fsIb :=
  fs_cons ialiveS_ok <|
  fsIt_ok
--END
--AT fsIb spL twY
--TEXT igreat | twY fsIb spL | 8 | besom/besomref03.Great | $ICB (m : Int) | $ICE, $I{m}
--KEY 81c0e39c97
set_option maxRecDepth 100000 in
theorem igreat_text (N n0 : Nat) (α : Type) (cx cy sd w h : Int) (pb po : List Int) (m : Int) (k : AOut → Option α) : evFn real tab ((twY fsIb spL).env real tab N (n0 + 8)) N Tryz.f7 α [.agg [.int .i64 cx, .int .i64 cy, .int .i64 sd, .int .i64 w, .int .i64 h, .ro (.int .i64) pb, .ro (.int .i64) po], .int .i64 m] k =
  bif decide ((↑pb.length : Int) > m) then k (AOut.ret (AVal.bool true))
  else k (AOut.ret (AVal.bool (decide ((↑po.length : Int) > m)))) := by kernel_rfl
--END
end Go.Proofs.YtbcjhjidhhecaaaGreat

/- Ice: iterators over cells, what is done with a cell, copies. -/
namespace Go.Proofs.YtbcjhjidhhecaaaGreat
open Go.RowKit

--AT fsI8 spL twY
--TEXT iall | twY fsI8 spL | 8 | besom/ice.all | $ICB | $ICE
--KEY 7421b4f2f9
set_option maxRecDepth 100000 in
theorem iall_text (N n0 : Nat) (α : Type) (cx cy sd w h : Int) (pb po : List Int) (k : AOut → Option α) : evFn real tab ((twY fsI8 spL).env real tab N (n0 + 8)) N Tryz.f71 α [.agg [.int .i64 cx, .int .i64 cy, .int .i64 sd, .int .i64 w, .int .i64 h, .ro (.int .i64) pb, .ro (.int .i64) po]] k =
  k
    (AOut.ret
      (AVal.fn 113
        [AVal.rp
            [AVal.int IntKind.i64 cx, AVal.int IntKind.i64 cy, AVal.int IntKind.i64 sd, AVal.int IntKind.i64 w,
              AVal.int IntKind.i64 h, AVal.ro (Sh.int IntKind.i64) pb, AVal.ro (Sh.int IntKind.i64) po]])) := by kernel_rfl
--END
--TEXT itchd | twY fsI8 spL | 8 | besom/ice.touched | $ICB (x y u v : Int) | $ICE, $S{x y}, $S{u v}
--KEY 75a53dc996
set_option maxRecDepth 100000 in
theorem itchd_text (N n0 : Nat) (α : Type) (cx cy sd w h : Int) (pb po : List Int) (x y u v : Int) (k : AOut → Option α) : evFn real tab ((twY fsI8 spL).env real tab N (n0 + 8)) N Tryz.f62 α [.agg [.int .i64 cx, .int .i64 cy, .int .i64 sd, .int .i64 w, .int .i64 h, .ro (.int .i64) pb, .ro (.int .i64) po], .agg [.int .i64 x, .int .i64 y], .agg [.int .i64 u, .int .i64 v]] k =
  k
    (AOut.ret
      (AVal.fn 109
        [AVal.rp
            [AVal.int IntKind.i64 cx, AVal.int IntKind.i64 cy, AVal.int IntKind.i64 sd, AVal.int IntKind.i64 w,
              AVal.int IntKind.i64 h, AVal.ro (Sh.int IntKind.i64) pb, AVal.ro (Sh.int IntKind.i64) po],
          AVal.rp [AVal.int IntKind.i64 x, AVal.int IntKind.i64 y],
          AVal.rp [AVal.int IntKind.i64 u, AVal.int IntKind.i64 v]])) := by kernel_rfl
--END
--TEXT iinside | twY fsI8 spL | 8 | besom/ice.inside | $ICB (x y u v : Int) | $ICE, $S{x y}, $S{u v}
--KEY eae70b5916
set_option maxRecDepth 100000 in
theorem iinside_text (N n0 : Nat) (α : Type) (cx cy sd w h : Int) (pb po : List Int) (x y u v : Int) (k : AOut → Option α) : evFn real tab ((twY fsI8 spL).env real tab N (n0 + 8)) N Tryz.f74 α [.agg [.int .i64 cx, .int .i64 cy, .int .i64 sd, .int .i64 w, .int .i64 h, .ro (.int .i64) pb, .ro (.int .i64) po], .agg [.int .i64 x, .int .i64 y], .agg [.int .i64 u, .int .i64 v]] k =
  k
    (AOut.ret
      (AVal.fn 114
        [AVal.rp
            [AVal.int IntKind.i64 cx, AVal.int IntKind.i64 cy, AVal.int IntKind.i64 sd, AVal.int IntKind.i64 w,
              AVal.int IntKind.i64 h, AVal.ro (Sh.int IntKind.i64) pb, AVal.ro (Sh.int IntKind.i64) po],
          AVal.rp [AVal.int IntKind.i64 x, AVal.int IntKind.i64 y],
          AVal.rp [AVal.int IntKind.i64 u, AVal.int IntKind.i64 v]])) := by kernel_rfl
--END
theorem clone_text (N n0 : Nat) (α : Type) (xs : List Int) (k : AOut → Option α) : evFn real tab ((twY fsI8 spL).env real tab N (n0 + 8)) N Tryz.f67 α [.ro (.int .i64) xs] k = if 0 < xs.length then if (List.length (α := Int) [] + xs.length) * 8 ≤ room then k (.ret (.ro (.int .i64) ((List.nil (α := Int)) ++ xs))) else none else none := by kernel_rfl
--FIN iall | besom/ice.all | $ICB | $ICE | .ret (.fn 113 [$ICR])
theorem iall_fin (cx cy sd w h : Int) (pb po : List Int) (hs : ∀ qSm ∈ ([.agg [.int .i64 cx, .int .i64 cy, .int .i64 sd, .int .i64 w, .int .i64 h, .ro (.int .i64) pb, .ro (.int .i64) po]] : List AVal), Sm qSm) : ∃ N n, ∀ α (k : AOut → Option α), evFn real tab ((twY fsI8 spL).env real tab N n) N Tryz.f71 α [.agg [.int .i64 cx, .int .i64 cy, .int .i64 sd, .int .i64 w, .int .i64 h, .ro (.int .i64) pb, .ro (.int .i64) po]] k = k (.ret (.fn 113 [.rp [.int .i64 cx, .int .i64 cy, .int .i64 sd, .int .i64 w, .int .i64 h, .ro (.int .i64) pb, .ro (.int .i64) po]])) := by
  exact ⟨8, 8, fun α k => iall_text 8 0 α cx cy sd w h pb po k⟩
--CON iall
noncomputable def iallS : Fsp := fun _ args k => match args with
  | [.agg [.int .i64 cx, .int .i64 cy, .int .i64 sd, .int .i64 w, .int .i64 h, .ro (.int .i64) pb, .ro (.int .i64) po]] => k (.ret (.fn 113 [.rp [.int .i64 cx, .int .i64 cy, .int .i64 sd, .int .i64 w, .int .i64 h, .ro (.int .i64) pb, .ro (.int .i64) po]]))
  | _ => none
theorem iallS_ok : FspOk Tryz.prog 71 iallS := tower_Y fsI8_ok spL_ok ⟨Tryz.func71, fun _ _ => by kernel_rfl⟩ (by intro α args k; unfold iallS; split <;> rfl) fun args out hSm hEq => by
  unfold iallS at hEq
  split at hEq
  · rename_i cx cy sd w h pb po
    obtain ⟨N, n, e⟩ := iall_fin cx cy sd w h pb po hSm
    exact ⟨N, n, (e AOut some).trans hEq⟩
  · cases hEq
--END
--FIN itchd | besom/ice.touched | $ICB (x y u v : Int) | $ICE, $S{x y}, $S{u v} | .ret (.fn 109 [$ICR, $P{x y}, $P{u v}])
theorem itchd_fin (cx cy sd w h : Int) (pb po : List Int) (x y u v : Int) (hs : ∀ qSm ∈ ([.agg [.int .i64 cx, .int .i64 cy, .int .i64 sd, .int .i64 w, .int .i64 h, .ro (.int .i64) pb, .ro (.int .i64) po], .agg [.int .i64 x, .int .i64 y], .agg [.int .i64 u, .int .i64 v]] : List AVal), Sm qSm) : ∃ N n, ∀ α (k : AOut → Option α), evFn real tab ((twY fsI8 spL).env real tab N n) N Tryz.f62 α [.agg [.int .i64 cx, .int .i64 cy, .int .i64 sd, .int .i64 w, .int .i64 h, .ro (.int .i64) pb, .ro (.int .i64) po], .agg [.int .i64 x, .int .i64 y], .agg [.int .i64 u, .int .i64 v]] k = k (.ret (.fn 109 [.rp [.int .i64 cx, .int .i64 cy, .int .i64 sd, .int .i64 w, .int .i64 h, .ro (.int .i64) pb, .ro (.int .i64) po], .rp [.int .i64 x, .int .i64 y], .rp [.int .i64 u, .int .i64 v]])) := by
  exact ⟨8, 8, fun α k => itchd_text 8 0 α cx cy sd w h pb po x y u v k⟩
--CON itchd
noncomputable def itchdS : Fsp := fun _ args k => match args with
  | [.agg [.int .i64 cx, .int .i64 cy, .int .i64 sd, .int .i64 w, .int .i64 h, .ro (.int .i64) pb, .ro (.int .i64) po], .agg [.int .i64 x, .int .i64 y], .agg [.int .i64 u, .int .i64 v]] => k (.ret (.fn 109 [.rp [.int .i64 cx, .int .i64 cy, .int .i64 sd, .int .i64 w, .int .i64 h, .ro (.int .i64) pb, .ro (.int .i64) po], .rp [.int .i64 x, .int .i64 y], .rp [.int .i64 u, .int .i64 v]]))
  | _ => none
theorem itchdS_ok : FspOk Tryz.prog 62 itchdS := tower_Y fsI8_ok spL_ok ⟨Tryz.func62, fun _ _ => by kernel_rfl⟩ (by intro α args k; unfold itchdS; split <;> rfl) fun args out hSm hEq => by
  unfold itchdS at hEq
  split at hEq
  · rename_i cx cy sd w h pb po x y u v
    obtain ⟨N, n, e⟩ := itchd_fin cx cy sd w h pb po x y u v hSm
    exact ⟨N, n, (e AOut some).trans hEq⟩
  · cases hEq
--END
--FIN iinside | besom/ice.inside | $ICB (x y u v : Int) | $ICE, $S{x y}, $S{u v} | .ret (.fn 114 [$ICR, $P{x y}, $P{u v}])
theorem iinside_fin (cx cy sd w h : Int) (pb po : List Int) (x y u v : Int) (hs : ∀ qSm ∈ ([.agg [.int .i64 cx, .int .i64 cy, .int .i64 sd, .int .i64 w, .int .i64 h, .ro (.int .i64) pb, .ro (.int .i64) po], .agg [.int .i64 x, .int .i64 y], .agg [.int .i64 u, .int .i64 v]] : List AVal), Sm qSm) : ∃ N n, ∀ α (k : AOut → Option α), evFn real tab ((twY fsI8 spL).env real tab N n) N Tryz.f74 α [.agg [.int .i64 cx, .int .i64 cy, .int .i64 sd, .int .i64 w, .int .i64 h, .ro (.int .i64) pb, .ro (.int .i64) po], .agg [.int .i64 x, .int .i64 y], .agg [.int .i64 u, .int .i64 v]] k = k (.ret (.fn 114 [.rp [.int .i64 cx, .int .i64 cy, .int .i64 sd, .int .i64 w, .int .i64 h, .ro (.int .i64) pb, .ro (.int .i64) po], .rp [.int .i64 x, .int .i64 y], .rp [.int .i64 u, .int .i64 v]])) := by
  exact ⟨8, 8, fun α k => iinside_text 8 0 α cx cy sd w h pb po x y u v k⟩
--CON iinside
noncomputable def iinsideS : Fsp := fun _ args k => match args with
  | [.agg [.int .i64 cx, .int .i64 cy, .int .i64 sd, .int .i64 w, .int .i64 h, .ro (.int .i64) pb, .ro (.int .i64) po], .agg [.int .i64 x, .int .i64 y], .agg [.int .i64 u, .int .i64 v]] => k (.ret (.fn 114 [.rp [.int .i64 cx, .int .i64 cy, .int .i64 sd, .int .i64 w, .int .i64 h, .ro (.int .i64) pb, .ro (.int .i64) po], .rp [.int .i64 x, .int .i64 y], .rp [.int .i64 u, .int .i64 v]]))
  | _ => none
theorem iinsideS_ok : FspOk Tryz.prog 74 iinsideS := tower_Y fsI8_ok spL_ok ⟨Tryz.func74, fun _ _ => by kernel_rfl⟩ (by intro α args k; unfold iinsideS; split <;> rfl) fun args out hSm hEq => by
  unfold iinsideS at hEq
  split at hEq
  · rename_i cx cy sd w h pb po x y u v
    obtain ⟨N, n, e⟩ := iinside_fin cx cy sd w h pb po x y u v hSm
    exact ⟨N, n, (e AOut some).trans hEq⟩
  · cases hEq
--END
--FIN clone | slices.Clone[[]int,int] | (xs : List Int) | .ro (.int .i64) xs | .ret (.ro (.int .i64) xs) | decide (0 < List.length (α := Int) xs) && decide (List.length (α := Int) xs ≤ 65536)
theorem clone_fin (xs : List Int) (hs : ∀ qSm ∈ ([.ro (.int .i64) xs] : List AVal), Sm qSm) (hCo : (decide (0 < List.length (α := Int) xs) && decide (List.length (α := Int) xs ≤ 65536)) = true) : ∃ N n, ∀ α (k : AOut → Option α), evFn real tab ((twY fsI8 spL).env real tab N n) N Tryz.f67 α [.ro (.int .i64) xs] k = k (.ret (.ro (.int .i64) xs)) := by
  simp only [Bool.and_eq_true, decide_eq_true_eq] at hCo
  refine ⟨8, 8, fun α k => (clone_text 8 0 α xs k).trans ?_⟩
  rw [if_pos hCo.1, if_pos (by simp [room]; omega)]
  rfl
--CON clone
noncomputable def cloneS : Fsp := fun _ args k => match args with
  | [.ro (.int .i64) xs] => bif decide (0 < List.length (α := Int) xs) && decide (List.length (α := Int) xs ≤ 65536) then k (.ret (.ro (.int .i64) xs)) else none
  | _ => none
theorem cloneS_ok : FspOk Tryz.prog 67 cloneS := tower_Y fsI8_ok spL_ok ⟨Tryz.func67, fun _ _ => by kernel_rfl⟩ (by intro α args k; unfold cloneS; split <;> simp only [cond_bind, Option.bind_some, Option.bind_none]) fun args out hSm hEq => by
  unfold cloneS at hEq
  split at hEq
  · rename_i xs
    cases hc : decide (0 < List.length (α := Int) xs) && decide (List.length (α := Int) xs ≤ 65536)
    · rw [hc] at hEq; cases hEq
    · rw [hc] at hEq
      obtain ⟨N, n, e⟩ := clone_fin xs hSm hc
      exact ⟨N, n, (e AOut some).trans hEq⟩
  · cases hEq
--END
/-! What is done with each cell. -/
def wornV (n we : Int) : Int := if 0 < IntKind.i64.wrap (n - we) then IntKind.i64.wrap (n - we) else 0
def moreV (n s : Int) : Int := if IntKind.i64.wrap (n + s) < 1000 then IntKind.i64.wrap (n + s) else 1000
def capV (n d : Int) : Int := if n < d then n else d
theorem ipass1_text (N n0 : Nat) (α : Type) (z fl ke sw be we : Int) (k : AOut → Option α) : evFn real tab ((twY fsI8 spL).env real tab N (n0 + 8)) N Tryz.f65 α [.int .i64 z, .rp [.int .i64 fl, .int .i64 ke, .int .i64 sw, .int .i64 be, .int .i64 we]] k = k (i1 (wornV z we)) := by kernel_rfl
theorem isweep1_text (N n0 : Nat) (α : Type) (z b : Int) (k : AOut → Option α) : evFn real tab ((twY fsI8 spL).env real tab N (n0 + 8)) N Tryz.f69 α [.int .i64 z, .rp [.int .i64 b]] k = k (i1 (moreV z b)) := by kernel_rfl
theorem ifade1_text (N n0 : Nat) (α : Type) (z b : Int) (k : AOut → Option α) : evFn real tab ((twY fsI8 spL).env real tab N (n0 + 8)) N Tryz.f72 α [.int .i64 z, .rp [.int .i64 b]] k = k (i1 (wornV z b)) := by kernel_rfl
theorem iscrape1_text (N n0 : Nat) (α : Type) (z b : Int) (k : AOut → Option α) : evFn real tab ((twY fsI8 spL).env real tab N (n0 + 8)) N Tryz.f75 α [.int .i64 z, .rp [.int .i64 b]] k = k (i1 (capV z b)) := by kernel_rfl
--TEXT iscrape2 | twY fsI8 spL | 8 | besom/ice.Scrape$2 | (z : Int) | $I{z}
--KEY f525e9d8e7
set_option maxRecDepth 100000 in
theorem iscrape2_text (N n0 : Nat) (α : Type) (z : Int) (k : AOut → Option α) : evFn real tab ((twY fsI8 spL).env real tab N (n0 + 8)) N Tryz.f76 α [.int .i64 z] k =
  k (AOut.ret (AVal.int IntKind.i64 0)) := by kernel_rfl
--END
theorem ispray2_text (N n0 : Nat) (α : Type) (z b : Int) (k : AOut → Option α) : evFn real tab ((twY fsI8 spL).env real tab N (n0 + 8)) N Tryz.f80 α [.int .i64 z, .rp [.int .i64 b]] k = k (i1 (moreV z b)) := by kernel_rfl
--FIN ipass1 | besom/ice.Pass$1 | (z fl ke sw be we : Int) | $I{z}, .rp [.int .i64 fl, .int .i64 ke, .int .i64 sw, .int .i64 be, .int .i64 we] | i1 (wornV z we)
theorem ipass1_fin (z fl ke sw be we : Int) (hs : ∀ qSm ∈ ([.int .i64 z, .rp [.int .i64 fl, .int .i64 ke, .int .i64 sw, .int .i64 be, .int .i64 we]] : List AVal), Sm qSm) : ∃ N n, ∀ α (k : AOut → Option α), evFn real tab ((twY fsI8 spL).env real tab N n) N Tryz.f65 α [.int .i64 z, .rp [.int .i64 fl, .int .i64 ke, .int .i64 sw, .int .i64 be, .int .i64 we]] k = k (i1 (wornV z we)) := by
  exact ⟨8, 8, fun α k => ipass1_text 8 0 α z fl ke sw be we k⟩
--CON ipass1
noncomputable def ipass1S : Fsp := fun _ args k => match args with
  | [.int .i64 z, .rp [.int .i64 fl, .int .i64 ke, .int .i64 sw, .int .i64 be, .int .i64 we]] => k (i1 (wornV z we))
  | _ => none
theorem ipass1S_ok : FspOk Tryz.prog 65 ipass1S := tower_Y fsI8_ok spL_ok ⟨Tryz.func65, fun _ _ => by kernel_rfl⟩ (by intro α args k; unfold ipass1S; split <;> rfl) fun args out hSm hEq => by
  unfold ipass1S at hEq
  split at hEq
  · rename_i z fl ke sw be we
    obtain ⟨N, n, e⟩ := ipass1_fin z fl ke sw be we hSm
    exact ⟨N, n, (e AOut some).trans hEq⟩
  · cases hEq
--END
--FIN isweep1 | besom/ice.Sweep$1 | (z b : Int) | $I{z}, .rp [.int .i64 b] | i1 (moreV z b)
theorem isweep1_fin (z b : Int) (hs : ∀ qSm ∈ ([.int .i64 z, .rp [.int .i64 b]] : List AVal), Sm qSm) : ∃ N n, ∀ α (k : AOut → Option α), evFn real tab ((twY fsI8 spL).env real tab N n) N Tryz.f69 α [.int .i64 z, .rp [.int .i64 b]] k = k (i1 (moreV z b)) := by
  exact ⟨8, 8, fun α k => isweep1_text 8 0 α z b k⟩
--CON isweep1
noncomputable def isweep1S : Fsp := fun _ args k => match args with
  | [.int .i64 z, .rp [.int .i64 b]] => k (i1 (moreV z b))
  | _ => none
theorem isweep1S_ok : FspOk Tryz.prog 69 isweep1S := tower_Y fsI8_ok spL_ok ⟨Tryz.func69, fun _ _ => by kernel_rfl⟩ (by intro α args k; unfold isweep1S; split <;> rfl) fun args out hSm hEq => by
  unfold isweep1S at hEq
  split at hEq
  · rename_i z b
    obtain ⟨N, n, e⟩ := isweep1_fin z b hSm
    exact ⟨N, n, (e AOut some).trans hEq⟩
  · cases hEq
--END
--FIN ifade1 | besom/ice.Fade$1 | (z b : Int) | $I{z}, .rp [.int .i64 b] | i1 (wornV z b)
theorem ifade1_fin (z b : Int) (hs : ∀ qSm ∈ ([.int .i64 z, .rp [.int .i64 b]] : List AVal), Sm qSm) : ∃ N n, ∀ α (k : AOut → Option α), evFn real tab ((twY fsI8 spL).env real tab N n) N Tryz.f72 α [.int .i64 z, .rp [.int .i64 b]] k = k (i1 (wornV z b)) := by
  exact ⟨8, 8, fun α k => ifade1_text 8 0 α z b k⟩
--CON ifade1
noncomputable def ifade1S : Fsp := fun _ args k => match args with
  | [.int .i64 z, .rp [.int .i64 b]] => k (i1 (wornV z b))
  | _ => none
theorem ifade1S_ok : FspOk Tryz.prog 72 ifade1S := tower_Y fsI8_ok spL_ok ⟨Tryz.func72, fun _ _ => by kernel_rfl⟩ (by intro α args k; unfold ifade1S; split <;> rfl) fun args out hSm hEq => by
  unfold ifade1S at hEq
  split at hEq
  · rename_i z b
    obtain ⟨N, n, e⟩ := ifade1_fin z b hSm
    exact ⟨N, n, (e AOut some).trans hEq⟩
  · cases hEq
--END
--FIN iscrape1 | besom/ice.Scrape$1 | (z b : Int) | $I{z}, .rp [.int .i64 b] | i1 (capV z b)
theorem iscrape1_fin (z b : Int) (hs : ∀ qSm ∈ ([.int .i64 z, .rp [.int .i64 b]] : List AVal), Sm qSm) : ∃ N n, ∀ α (k : AOut → Option α), evFn real tab ((twY fsI8 spL).env real tab N n) N Tryz.f75 α [.int .i64 z, .rp [.int .i64 b]] k = k (i1 (capV z b)) := by
  exact ⟨8, 8, fun α k => iscrape1_text 8 0 α z b k⟩
--CON iscrape1
noncomputable def iscrape1S : Fsp := fun _ args k => match args with
  | [.int .i64 z, .rp [.int .i64 b]] => k (i1 (capV z b))
  | _ => none
theorem iscrape1S_ok : FspOk Tryz.prog 75 iscrape1S := tower_Y fsI8_ok spL_ok ⟨Tryz.func75, fun _ _ => by kernel_rfl⟩ (by intro α args k; unfold iscrape1S; split <;> rfl) fun args out hSm hEq => by
  unfold iscrape1S at hEq
  split at hEq
  · rename_i z b
    obtain ⟨N, n, e⟩ := iscrape1_fin z b hSm
    exact ⟨N, n, (e AOut some).trans hEq⟩
  · cases hEq
--END
--FIN iscrape2 | besom/ice.Scrape$2 | (z : Int) | $I{z} | i1 0
theorem iscrape2_fin (z : Int) (hs : ∀ qSm ∈ ([.int .i64 z] : List AVal), Sm qSm) : ∃ N n, ∀ α (k : AOut → Option α), evFn real tab ((twY fsI8 spL).env real tab N n) N Tryz.f76 α [.int .i64 z] k = k (i1 0) := by
  exact ⟨8, 8, fun α k => iscrape2_text 8 0 α z k⟩
--CON iscrape2
noncomputable def iscrape2S : Fsp := fun _ args k => match args with
  | [.int .i64 z] => k (i1 0)
  | _ => none
theorem iscrape2S_ok : FspOk Tryz.prog 76 iscrape2S := tower_Y fsI8_ok spL_ok ⟨Tryz.func76, fun _ _ => by kernel_rfl⟩ (by intro α args k; unfold iscrape2S; split <;> rfl) fun args out hSm hEq => by
  unfold iscrape2S at hEq
  split at hEq
  · rename_i z
    obtain ⟨N, n, e⟩ := iscrape2_fin z hSm
    exact ⟨N, n, (e AOut some).trans hEq⟩
  · cases hEq
--END
--FIN ispray2 | besom/ice.Spray$2 | (z b : Int) | $I{z}, .rp [.int .i64 b] | i1 (moreV z b)
theorem ispray2_fin (z b : Int) (hs : ∀ qSm ∈ ([.int .i64 z, .rp [.int .i64 b]] : List AVal), Sm qSm) : ∃ N n, ∀ α (k : AOut → Option α), evFn real tab ((twY fsI8 spL).env real tab N n) N Tryz.f80 α [.int .i64 z, .rp [.int .i64 b]] k = k (i1 (moreV z b)) := by
  exact ⟨8, 8, fun α k => ispray2_text 8 0 α z b k⟩
--CON ispray2
noncomputable def ispray2S : Fsp := fun _ args k => match args with
  | [.int .i64 z, .rp [.int .i64 b]] => k (i1 (moreV z b))
  | _ => none
theorem ispray2S_ok : FspOk Tryz.prog 80 ispray2S := tower_Y fsI8_ok spL_ok ⟨Tryz.func80, fun _ _ => by kernel_rfl⟩ (by intro α args k; unfold ispray2S; split <;> rfl) fun args out hSm hEq => by
  unfold ispray2S at hEq
  split at hEq
  · rename_i z b
    obtain ⟨N, n, e⟩ := ispray2_fin z b hSm
    exact ⟨N, n, (e AOut some).trans hEq⟩
  · cases hEq
--END
--FS fsI9 | fsIt | iall;itchd;iinside;clone;ipass1;isweep1;ifade1;iscrape1;iscrape2;ispray2
noncomputable def fsI9 : FuncId → Option Fsp := fun g =>
  if g = 71 then some iallS else
  if g = 62 then some itchdS else
  if g = 74 then some iinsideS else
  if g = 67 then some cloneS else
  if g = 65 then some ipass1S else
  if g = 69 then some isweep1S else
  if g = 72 then some ifade1S else
  if g = 75 then some iscrape1S else
  if g = 76 then some iscrape2S else
  if g = 80 then some ispray2S else
  fsIt g
theorem fsI9_ok : FsOk fsI9 :=
  fs_cons iallS_ok <|
  fs_cons itchdS_ok <|
  fs_cons iinsideS_ok <|
  fs_cons cloneS_ok <|
  fs_cons ipass1S_ok <|
  fs_cons isweep1S_ok <|
  fs_cons ifade1S_ok <|
  fs_cons iscrape1S_ok <|
  fs_cons iscrape2S_ok <|
  fs_cons ispray2S_ok <|
  fsIt_ok
--END
end Go.Proofs.YtbcjhjidhhecaaaGreat

/- Ice after stones, brooms, time; scraped, sprayed; the mean. -/
namespace Go.Proofs.YtbcjhjidhhecaaaGreat
open Go.RowKit

/-! Lists, some of whose numbers something is done with. -/
def chgL (hit : Nat → Bool) (f : Int → Int) (l : List Int) : List Int := (List.range l.length).map fun i => bif hit i then f (l.getD i 0) else l.getD i 0
def updL (f : Int → Int) (i : Nat) (t : List Int) : List Int := t.set i (f (t.getD i 0))
theorem fold_len (hit : Nat → Bool) (f : Int → Int) (l : List Int) : ∀ n, (foldC hit (updL f) l n).length = l.length
  | 0 => rfl
  | n + 1 => by
    simp only [foldC]
    cases hit n
    · exact fold_len hit f l n
    · simp only [cond_true, updL, List.length_set]; exact fold_len hit f l n
theorem fold_get (hit : Nat → Bool) (f : Int → Int) (l : List Int) : ∀ n, n ≤ l.length → ∀ j, (foldC hit (updL f) l n).getD j 0 = bif decide (j < n) && hit j then f (l.getD j 0) else l.getD j 0
  | 0, _, j => by simp [foldC]
  | n + 1, hn, j => by
    have ih := fold_get hit f l n (by omega)
    have hlen := fold_len hit f l n
    simp only [foldC]
    cases hh : hit n
    · rw [cond_false, ih j]
      by_cases hj : j = n
      · subst hj; rw [hh]; simp
      · have : decide (j < n + 1) = decide (j < n) := by rw [decide_eq_decide]; omega
        rw [this]
    · rw [cond_true]
      generalize foldC hit (updL f) l n = F at *
      unfold updL
      by_cases hj : j = n
      · subst hj
        rw [List.getD_eq_getElem?_getD, List.getElem?_set_self (by omega), Option.getD_some, ih j, hh]
        simp
      · rw [List.getD_eq_getElem?_getD, List.getElem?_set_ne (by omega), ← List.getD_eq_getElem?_getD, ih j]
        have : decide (j < n + 1) = decide (j < n) := by rw [decide_eq_decide]; omega
        rw [this]
theorem fold_chg (hit : Nat → Bool) (f : Int → Int) (l : List Int) : foldC hit (updL f) l l.length = chgL hit f l := by
  refine List.ext_getElem (by rw [fold_len]; simp [chgL]) fun i h1 h2 => ?_
  have a := fold_get hit f l l.length (Nat.le_refl _) i
  rw [List.getD_eq_getElem?_getD, List.getElem?_eq_getElem h1, Option.getD_some] at a
  rw [fold_len] at h1
  rw [a, decide_eq_true h1, Bool.true_and]
  simp [chgL]
theorem chg_len (hit : Nat → Bool) (f : Int → Int) (l : List Int) : (chgL hit f l).length = l.length := by simp [chgL]
theorem chg_get (hit : Nat → Bool) (f : Int → Int) (l : List Int) {j : Nat} (hj : j < l.length) : (chgL hit f l).getD j 0 = bif hit j then f (l.getD j 0) else l.getD j 0 := by
  rw [← fold_chg, fold_get hit f l l.length (Nat.le_refl _), decide_eq_true hj, Bool.true_and]

/-! Boxes. -/
def inBx (cx cy sd w x y u v c : Int) : Bool := (decide (x ≤ cx + c % w * sd) && decide (y ≤ cy + c / w * sd)) && (decide (cx + c % w * sd + sd ≤ u) && decide (cy + c / w * sd + sd ≤ v))
section
variable {σ α : Type}
def bxF (cx cy sd w h x y u v : Int) (gc : σ → Int) (nx : σ → σ) (hk : σ → Option (LRes σ α)) (z : σ) : Option (LRes σ α) :=
  bif decide (gc z < IntKind.i64.wrap (w * h)) then
    if w = 0 then none else if w = 0 then none
    else
      bif decide (lwX cx sd w (gc z) ≥ x) then
        bif decide (lwY cy sd w (gc z) ≥ y) then
          bif decide (hgX cx sd w (gc z) ≤ u) then
            bif decide (hgY cy sd w (gc z) ≤ v) then hk z
            else some (LRes.cont (nx z))
          else some (LRes.cont (nx z))
        else some (LRes.cont (nx z))
      else some (LRes.cont (nx z))
  else some (LRes.brk 0 z)
theorem bx_loop (cx cy sd w h : Int) (pb po : List Int) (x y u v : Int) (g : IceIs cx cy sd w h pb po) (gc : σ → Int) (nx : σ → σ) (hk : σ → Option (LRes σ α)) (st : Nat → σ) (h0 : ∀ i, gc (st i) = i) (h1 : ∀ i, i < cels w h → inBx cx cy sd w x y u v i = true → hk (st i) = some (.cont (st (i + 1)))) (h2 : ∀ i, i < cels w h → inBx cx cy sd w x y u v i = false → nx (st i) = st (i + 1)) (K : Nat → σ → Option α) {N : Nat} (hN : cels w h < N) :
    afterL (iterL N (bxF cx cy sd w h x y u v gc nx hk) (st 0)) K = K 0 (st (cels w h)) := by
  obtain ⟨c1, c2⟩ := cels_le g.fw g.fh
  have gw := g.fw
  refine count_loop (f := bxF cx cy sd w h x y u v gc nx hk) st (cels w h) (fun i hi => ?_) ?_ hN
  · obtain ⟨e1, e2, e3, e4⟩ := lw_eq g.fc g.fs g.fw g.fh (show (0 : Int) ≤ i by omega) (show (i : Int) < w * h by omega)
    unfold bxF
    rw [h0 i, e1, e2, e3, e4, i64_in (w * h) (by omega), decide_eq_true (show (i : Int) < w * h by omega), cond_true, if_neg (by omega), if_neg (by omega)]
    have a1 := h1 i hi
    have a2 := h2 i hi
    show (bif decide (x ≤ cx + (i : Int) % w * sd) then bif decide (y ≤ cy + (i : Int) / w * sd) then bif decide (cx + (i : Int) % w * sd + sd ≤ u) then bif decide (cy + (i : Int) / w * sd + sd ≤ v) then _ else _ else _ else _ else _) = _
    unfold inBx at a1 a2
    revert a1 a2
    cases decide (x ≤ cx + (i : Int) % w * sd) <;> cases decide (y ≤ cy + (i : Int) / w * sd) <;> cases decide (cx + (i : Int) % w * sd + sd ≤ u) <;> cases decide (cy + (i : Int) / w * sd + sd ≤ v) <;> intro a1 a2 <;> first | exact a1 rfl | (simp only [cond_true, cond_false]; rw [a2 rfl])
  · unfold bxF
    rw [h0, i64_in (w * h) (by omega), decide_eq_false (by omega)]
    rfl
end
def setK {α : Type} (f : Int → Int) (z : List Int × Int × Unit) : Option (LRes (List Int × Int × Unit) α) :=
  if 0 ≤ z.2.1 ∧ z.2.1 < (z.1.length : Int) then if 0 ≤ z.2.1 ∧ z.2.1 < (z.1.length : Int) then some (LRes.cont (z.1.set z.2.1.toNat (f (z.1.getD z.2.1.toNat 0)), IntKind.i64.wrap (z.2.1 + 1), ())) else none else none
abbrev nxL : List Int × Int × Unit → List Int × Int × Unit := fun z => (z.1, IntKind.i64.wrap (z.2.1 + 1), ())
def whlC (xs : List Int) : Prop := 0 < xs.length ∧ xs.length ≤ 65536
/-- The list behind a loop over a box, where something is done with the cells for which something more holds. -/
theorem bx_list {α : Type} (cx cy sd w h : Int) (pb po : List Int) (x y u v : Int) (g : IceIs cx cy sd w h pb po) (xs : List Int) (hx : (xs.length : Int) = w * h) (f : Int → Int) (more : Nat → Bool) (hk : List Int × Int × Unit → Option (LRes (List Int × Int × Unit) α))
    (hkt : ∀ (t : List Int) (i : Nat), i < cels w h → t.length = xs.length → hk (t, (i : Int), ()) = bif more i then some (.cont (updL f i t, ((i + 1 : Nat) : Int), ())) else some (.cont (t, ((i + 1 : Nat) : Int), ()))) (K : Nat → List Int × Int × Unit → Option α) {N : Nat} (hN : cels w h < N) :
    afterL (iterL N (bxF cx cy sd w h x y u v (fun z : List Int × Int × Unit => z.2.1) nxL hk) (xs, 0, ())) K = K 0 (chgL (fun i => inBx cx cy sd w x y u v i && more i) f xs, ((cels w h : Nat) : Int), ()) := by
  obtain ⟨c1, c2⟩ := cels_le g.fw g.fh
  have hcl : cels w h = xs.length := by omega
  have key := bx_loop cx cy sd w h pb po x y u v g (fun z : List Int × Int × Unit => z.2.1) nxL hk (fun i : Nat => (foldC (fun i => inBx cx cy sd w x y u v i && more i) (updL f) xs i, (i : Int), ())) (fun i => rfl) (fun i hi hh => ?_) (fun i hi hh => ?_) K hN
  · rw [hcl, fold_chg] at key
    rw [hcl]
    exact key
  · rw [hkt _ i hi (fold_len ..)]
    simp only [foldC, hh, Bool.true_and]
    cases more i <;> rfl
  · show (_, IntKind.i64.wrap ((i : Int) + 1), ()) = _
    rw [i64_in _ (by omega)]
    simp only [foldC, hh, Bool.false_and, cond_false]
    rfl
theorem setK_eq {α : Type} (f : Int → Int) {t : List Int} {i n : Nat} (hi : i < n) (ht : t.length = n) (hn : n ≤ 65536) : setK (α := α) f (t, (i : Int), ()) = some (.cont (updL f i t, ((i + 1 : Nat) : Int), ())) := by
  unfold setK
  simp only
  rw [if_pos ⟨by omega, by omega⟩, if_pos ⟨by omega, by omega⟩, i64_in _ (by omega), Int.toNat_natCast]
  rfl
--AT fsI9 spL twY
set_option maxRecDepth 100000 in
theorem ichg_text (N n0 : Nat) (α : Type) (xs : List Int) (cx cy sd w h : Int) (pb po : List Int) (x y u v : Int) (k : AOut → Option α) : evFn real tab ((twY fsI9 spL).env real tab N (n0 + 8)) N Tryz.f64 α [.ro (.int .i64) xs, .fn 114 [.rp [.int .i64 cx, .int .i64 cy, .int .i64 sd, .int .i64 w, .int .i64 h, .ro (.int .i64) pb, .ro (.int .i64) po], .rp [.int .i64 x, .int .i64 y], .rp [.int .i64 u, .int .i64 v]], .fn 76 []] k =
    if 0 < xs.length then if (List.length (α := Int) [] + xs.length) * 8 ≤ room then
      afterL (iterL N (bxF cx cy sd w h x y u v (fun z : List Int × Int × Unit => z.2.1) nxL (setK fun _ => 0)) ((List.nil (α := Int)) ++ xs, 0, ())) fun id z => if id = 0 then k (.ret (.ro (.int .i64) z.1)) else none
    else none else none := by kernel_rfl
def lnB (xs : List Int) (w h : Int) : Bool := (xs.length : Int) == w * h
--FIN ichg | besom/ice.changed[int] | (xs : List Int) $ICB (x y u v : Int) | .ro (.int .i64) xs, .fn 114 [$ICR, $P{x y}, $P{u v}], .fn 76 [] | .ret (.ro (.int .i64) (chgL (fun i => inBx cx cy sd w x y u v i && true) (fun _ => 0) xs)) | iceB $ICV && lnB xs w h
theorem ichg_fin (xs : List Int) (cx cy sd w h : Int) (pb po : List Int) (x y u v : Int) (hs : ∀ qSm ∈ ([.ro (.int .i64) xs, .fn 114 [.rp [.int .i64 cx, .int .i64 cy, .int .i64 sd, .int .i64 w, .int .i64 h, .ro (.int .i64) pb, .ro (.int .i64) po], .rp [.int .i64 x, .int .i64 y], .rp [.int .i64 u, .int .i64 v]], .fn 76 []] : List AVal), Sm qSm) (hCo : (iceB cx cy sd w h pb po && lnB xs w h) = true) : ∃ N n, ∀ α (k : AOut → Option α), evFn real tab ((twY fsI9 spL).env real tab N n) N Tryz.f64 α [.ro (.int .i64) xs, .fn 114 [.rp [.int .i64 cx, .int .i64 cy, .int .i64 sd, .int .i64 w, .int .i64 h, .ro (.int .i64) pb, .ro (.int .i64) po], .rp [.int .i64 x, .int .i64 y], .rp [.int .i64 u, .int .i64 v]], .fn 76 []] k = k (.ret (.ro (.int .i64) (chgL (fun i => inBx cx cy sd w x y u v i && true) (fun _ => 0) xs))) := by
  simp only [Bool.and_eq_true, lnB, beq_iff_eq] at hCo
  obtain ⟨hI, hx⟩ := hCo
  have g := ice_is _ _ _ _ _ _ _ hI
  obtain ⟨c1, c2⟩ := cels_le g.fw g.fh
  have gw := mul_in (a := w) (b := h) (A := 256) (B := 256) ⟨by have := g.fw; omega, by have := g.fw; omega⟩ ⟨by have := g.fh; omega, by have := g.fh; omega⟩
  have g1 : 1 * 1 ≤ w * h := Int.mul_le_mul g.fw.1 g.fh.1 (by omega) (by have := g.fw; omega)
  refine ⟨cels w h + 1, 8, fun α k => (ichg_text (cels w h + 1) 0 α xs cx cy sd w h pb po x y u v k).trans ?_⟩
  rw [if_pos (by omega), if_pos (by simp [room]; omega), List.nil_append]
  rw [bx_list cx cy sd w h pb po x y u v g xs hx (fun _ => 0) (fun _ => true) (setK fun _ => 0) (fun t i hi ht => by rw [setK_eq _ hi (by omega) c1]; rfl) _ (by omega), if_pos rfl]
--CON ichg
noncomputable def ichgS : Fsp := fun _ args k => match args with
  | [.ro (.int .i64) xs, .fn 114 [.rp [.int .i64 cx, .int .i64 cy, .int .i64 sd, .int .i64 w, .int .i64 h, .ro (.int .i64) pb, .ro (.int .i64) po], .rp [.int .i64 x, .int .i64 y], .rp [.int .i64 u, .int .i64 v]], .fn 76 []] => bif iceB cx cy sd w h pb po && lnB xs w h then (k (.ret (.ro (.int .i64) (chgL (fun i => inBx cx cy sd w x y u v i && true) (fun _ => 0) xs)))) else none
  | _ => none
theorem ichgS_ok : FspOk Tryz.prog 64 ichgS := tower_Y fsI9_ok spL_ok ⟨Tryz.func64, fun _ _ => by kernel_rfl⟩ (by intro α args k; unfold ichgS; split <;> simp only [cond_bind, Option.bind_some, Option.bind_none]) fun args out hSm hEq => by
  unfold ichgS at hEq
  split at hEq
  · rename_i xs cx cy sd w h pb po x y u v
    cases hc : iceB cx cy sd w h pb po && lnB xs w h
    · rw [hc] at hEq; cases hEq
    · rw [hc] at hEq
      obtain ⟨N, n, e⟩ := ichg_fin xs cx cy sd w h pb po x y u v hSm hc
      exact ⟨N, n, (e AOut some).trans hEq⟩
  · cases hEq
--END
--FS fsI10 | fsI9 | ichg
noncomputable def fsI10 : FuncId → Option Fsp := fun g =>
  if g = 64 then some ichgS else
  fsI9 g
theorem fsI10_ok : FsOk fsI10 :=
  fs_cons ichgS_ok <|
  fsI9_ok
--END
end Go.Proofs.YtbcjhjidhhecaaaGreat

/- Ice after stones, brooms, time; scraped, sprayed; the mean: contracts. -/
namespace Go.Proofs.YtbcjhjidhhecaaaGreat
open Go.RowKit

/-- Ice with other pebble and polish; none. -/
abbrev icO (cx cy sd w h : Int) (pb po : List Int) : AOut := .ret (.tup [.agg [.int .i64 cx, .int .i64 cy, .int .i64 sd, .int .i64 w, .int .i64 h, .ro (.int .i64) pb, .ro (.int .i64) po], .int .i64 0])
abbrev icN : AOut := .ret (.tup [.agg [.int .i64 0, .int .i64 0, .int .i64 0, .int .i64 0, .int .i64 0, .nils, .nils], .int .i64 2])
def setC (f : Int → Int) : (β : Type) → Int → List Int → (List Int → Option β) → Option β := fun _ c t k =>
  if 0 ≤ c ∧ c < (t.length : Int) then if 0 ≤ c ∧ c < (t.length : Int) then k (t.set c.toNat (f (t.getD c.toNat 0))) else none else none
def touM {α : Type} (N : Nat) (bf bt cf ct w : Int) (dom hit : Int → Bool) (f : Int → Int) (t0 : List Int) (K : List Int → Option α) : Option α :=
  afterL
    (iterL N
      (fun z : List Int × Int × Unit =>
        bif decide (z.2.1 ≤ bt) then
          afterL
            (iterL N
              (fun v : List Int × Int × Unit =>
                bif decide (v.2.1 ≤ ct) then
                  bif dom (IntKind.i64.wrap (IntKind.i64.wrap (z.2.1 * w) + v.2.1)) then
                    bif hit (IntKind.i64.wrap (IntKind.i64.wrap (z.2.1 * w) + v.2.1)) then
                      setC f _ (IntKind.i64.wrap (IntKind.i64.wrap (z.2.1 * w) + v.2.1)) v.1 fun t => some (LRes.cont (t, IntKind.i64.wrap (v.2.1 + 1), ()))
                    else some (LRes.cont (v.1, IntKind.i64.wrap (v.2.1 + 1), ()))
                  else none
                else some (LRes.brk 2 (v.1, v.2.1, ())))
              (z.1, cf, ()))
            fun id y => if id = 2 then some (LRes.cont (y.1, IntKind.i64.wrap (z.2.1 + 1), ())) else none
        else some (LRes.brk 0 (z.1, z.2.1, ())))
      (t0, bf, ()))
    fun id y => if id = 0 then K y.1 else none
--AT fsI10 spL twY
set_option maxRecDepth 100000 in
theorem ipass_text (N n0 : Nat) (α : Type) (cx cy sd w h : Int) (pb po : List Int) (fl ke sw be we : Int) (x y u v : Int) (k : AOut → Option α) : evFn real tab ((twY fsI9 spL).env real tab N (n0 + 8)) N Tryz.f23 α [.agg [.int .i64 cx, .int .i64 cy, .int .i64 sd, .int .i64 w, .int .i64 h, .ro (.int .i64) pb, .ro (.int .i64) po], .agg [.int .i64 fl, .int .i64 ke, .int .i64 sw, .int .i64 be, .int .i64 we], .agg [.int .i64 x, .int .i64 y], .agg [.int .i64 u, .int .i64 v]] k =
    bif er2 (iceB cx cy sd w h pb po) == 0 then bif er2 (graB fl ke sw be we) == 0 then bif !!([(x, y, ()), (u, v, ())].any offS) then k icN
    else
      if 0 < pb.length then if (List.length (α := Int) [] + pb.length) * 8 ≤ room then
        bif bdB cx sd w x u then bif bdB cy sd h y v then
          touM N (bdF cy sd h y v) (bdT cy sd h y v) (bdF cx sd w x u) (bdT cx sd w x u) w (isC cx cy sd w h pb po x y u v) (toB cx cy sd w x y u v) (fun n => wornV n we) ((List.nil (α := Int)) ++ pb) fun t =>
            bif decide (0 < po.length) && decide (po.length ≤ 65536) then k (icO cx cy sd w h t po) else none
        else none else none
      else none else none
    else k icN else k icN := by kernel_rfl
set_option maxRecDepth 100000 in
theorem isweep_text (N n0 : Nat) (α : Type) (cx cy sd w h : Int) (pb po : List Int) (x y u v b : Int) (k : AOut → Option α) : evFn real tab ((twY fsI9 spL).env real tab N (n0 + 8)) N Tryz.f25 α [.agg [.int .i64 cx, .int .i64 cy, .int .i64 sd, .int .i64 w, .int .i64 h, .ro (.int .i64) pb, .ro (.int .i64) po], .agg [.int .i64 x, .int .i64 y], .agg [.int .i64 u, .int .i64 v], .int .i64 b] k =
    bif er2 (iceB cx cy sd w h pb po) != 0 then k icN else bif !!([(x, y, ()), (u, v, ())].any offS) then k icN
    else bif decide (0 ≤ b) then bif !decide (b ≤ 1000) then k icN
    else
      if 0 < po.length then if (List.length (α := Int) [] + po.length) * 8 ≤ room then
        bif bdB cx sd w x u then bif bdB cy sd h y v then
          touM N (bdF cy sd h y v) (bdT cy sd h y v) (bdF cx sd w x u) (bdT cx sd w x u) w (isC cx cy sd w h pb po x y u v) (toB cx cy sd w x y u v) (fun n => moreV n b) ((List.nil (α := Int)) ++ po) fun t =>
            bif decide (0 < pb.length) && decide (pb.length ≤ 65536) then k (icO cx cy sd w h pb t) else none
        else none else none
      else none else none
    else k icN := by kernel_rfl
def fadF {α : Type} (wh : Int) (f : Int → Int) : List Int × Int × Unit → Option (LRes (List Int × Int × Unit) α) := fun z =>
  bif decide (z.2.1 < wh) then setK f z else some (LRes.brk 0 (z.1, z.2.1, ()))
set_option maxRecDepth 100000 in
theorem ifade_text (N n0 : Nat) (α : Type) (cx cy sd w h : Int) (pb po : List Int) (b : Int) (k : AOut → Option α) : evFn real tab ((twY fsI9 spL).env real tab N (n0 + 8)) N Tryz.f30 α [.agg [.int .i64 cx, .int .i64 cy, .int .i64 sd, .int .i64 w, .int .i64 h, .ro (.int .i64) pb, .ro (.int .i64) po], .int .i64 b] k =
    bif er2 (iceB cx cy sd w h pb po) != 0 then k icN
    else bif decide (0 ≤ b) then bif !decide (b ≤ 1000) then k icN
    else
      if 0 < po.length then if (List.length (α := Int) [] + po.length) * 8 ≤ room then
        afterL (iterL N (fadF (IntKind.i64.wrap (w * h)) fun n => wornV n b) ((List.nil (α := Int)) ++ po, 0, ())) fun id z => if id = 0 then
          (bif decide (0 < pb.length) && decide (pb.length ≤ 65536) then k (icO cx cy sd w h pb z.1) else none) else none
      else none else none
    else k icN := by kernel_rfl
set_option maxRecDepth 100000 in
theorem iscrape_text (N n0 : Nat) (α : Type) (cx cy sd w h : Int) (pb po : List Int) (x y u v b : Int) (k : AOut → Option α) : evFn real tab ((twY fsI10 spL).env real tab N (n0 + 8)) N Tryz.f32 α [.agg [.int .i64 cx, .int .i64 cy, .int .i64 sd, .int .i64 w, .int .i64 h, .ro (.int .i64) pb, .ro (.int .i64) po], .agg [.int .i64 x, .int .i64 y], .agg [.int .i64 u, .int .i64 v], .int .i64 b] k =
    bif er2 (iceB cx cy sd w h pb po) == 0 then bif !([(x, y, ()), (u, v, ())].any offS) then bif decide (x ≤ u) then bif !decide (y ≤ v) then k icN
    else bif decide (0 ≤ b) then bif !decide (b ≤ 1000) then k icN
    else
      if 0 < pb.length then if (List.length (α := Int) [] + pb.length) * 8 ≤ room then
        afterL (iterL N (bxF cx cy sd w h x y u v (fun z : List Int × Int × Unit => z.2.1) nxL (setK fun n => capV n b)) ((List.nil (α := Int)) ++ pb, 0, ())) fun id z => if id = 0 then
          (bif iceB cx cy sd w h pb po && lnB po w h then k (icO cx cy sd w h z.1 (chgL (fun i => inBx cx cy sd w x y u v i && true) (fun _ => 0) po)) else none) else none
      else none else none
    else k icN else k icN else k icN else k icN := by kernel_rfl
def spyK {α : Type} (w tn b : Int) (z : List Int × Int × Unit) : Option (LRes (List Int × Int × Unit) α) :=
  if w = 0 then none else if w = 0 then none
  else bif (IntKind.i64.wrap (IntKind.i64.wrap (z.2.1.tmod w + IntKind.i64.wrap (z.2.1.tdiv w)) + tn)).tmod 2 == 0 then setK (fun n => moreV n b) z else some (LRes.cont (nxL z))
set_option maxRecDepth 100000 in
theorem ispray_text (N n0 : Nat) (α : Type) (cx cy sd w h : Int) (pb po : List Int) (x y u v b tn : Int) (k : AOut → Option α) : evFn real tab ((twY fsI9 spL).env real tab N (n0 + 8)) N Tryz.f34 α [.agg [.int .i64 cx, .int .i64 cy, .int .i64 sd, .int .i64 w, .int .i64 h, .ro (.int .i64) pb, .ro (.int .i64) po], .agg [.int .i64 x, .int .i64 y], .agg [.int .i64 u, .int .i64 v], .int .i64 b, .int .i64 tn] k =
    bif er2 (iceB cx cy sd w h pb po) == 0 then bif !([(x, y, ()), (u, v, ())].any offS) then bif decide (x ≤ u) then bif !decide (y ≤ v) then k icN
    else bif decide (0 ≤ b) then bif !decide (b ≤ 1000) then k icN
    else bif decide (0 ≤ tn) then bif !decide (tn ≤ 1) then k icN
    else
      if 0 < pb.length then if (List.length (α := Int) [] + pb.length) * 8 ≤ room then
        afterL (iterL N (bxF cx cy sd w h x y u v (fun z : List Int × Int × Unit => z.2.1) nxL (spyK w tn b)) ((List.nil (α := Int)) ++ pb, 0, ())) fun id z => if id = 0 then
          (bif decide (0 < po.length) && decide (po.length ≤ 65536) then k (icO cx cy sd w h z.1 po) else none) else none
      else none else none
    else k icN else k icN else k icN else k icN else k icN := by kernel_rfl
def meaK {α : Type} (pb : List Int) (z : Int × Int × Int × Unit) : Option (LRes (Int × Int × Int × Unit) α) :=
  if 0 ≤ z.1 ∧ z.1 < (pb.length : Int) then some (LRes.cont (IntKind.i64.wrap (z.1 + 1), IntKind.i64.wrap (z.2.1 + pb.getD z.1.toNat 0), IntKind.i64.wrap (z.2.2.1 + 1), ())) else none
abbrev nxM : Int × Int × Int × Unit → Int × Int × Int × Unit := fun z => (IntKind.i64.wrap (z.1 + 1), z.2.1, z.2.2.1, ())
def i3 (a b e : Int) : AOut := .ret (.tup [.int .i64 a, .int .i64 b, .int .i64 e])
set_option maxRecDepth 100000 in
theorem imean_text (N n0 : Nat) (α : Type) (cx cy sd w h : Int) (pb po : List Int) (x y u v : Int) (k : AOut → Option α) : evFn real tab ((twY fsI9 spL).env real tab N (n0 + 8)) N Tryz.f36 α [.agg [.int .i64 cx, .int .i64 cy, .int .i64 sd, .int .i64 w, .int .i64 h, .ro (.int .i64) pb, .ro (.int .i64) po], .agg [.int .i64 x, .int .i64 y], .agg [.int .i64 u, .int .i64 v]] k =
    bif er2 (iceB cx cy sd w h pb po) == 0 then bif !([(x, y, ()), (u, v, ())].any offS) then bif decide (x ≤ u) then bif !decide (y ≤ v) then k (i3 0 0 2)
    else afterL (iterL N (bxF cx cy sd w h x y u v (fun z : Int × Int × Int × Unit => z.1) nxM (meaK pb)) (0, 0, 0, ())) fun id z => if id = 0 then k (i3 z.2.1 z.2.2.1 0) else none
    else k (i3 0 0 2) else k (i3 0 0 2) else k (i3 0 0 2) := by kernel_rfl
end Go.Proofs.YtbcjhjidhhecaaaGreat

/- Ice after stones, brooms, time; scraped, sprayed; the mean: what they come to. -/
namespace Go.Proofs.YtbcjhjidhhecaaaGreat
open Go.RowKit

section
variable {σ τ α β : Type}
def LRes.map (e : σ → τ) (g : α → β) : LRes σ α → LRes τ β
  | .cont x => .cont (e x)
  | .brk id x => .brk id (e x)
  | .fin a => .fin (g a)
theorem iterL_conj (e : σ → τ) (g : α → β) (f : σ → Option (LRes σ α)) (f' : τ → Option (LRes τ β)) (h : ∀ x, f' (e x) = (f x).map (LRes.map e g)) : ∀ N x, iterL N f' (e x) = (iterL N f x).map (LRes.map e g)
  | 0, _ => rfl
  | N + 1, x => by
    simp only [iterL, h x]
    cases hf : f x with
    | none => rfl
    | some r =>
      cases r with
      | cont y => exact iterL_conj e g f f' h N y
      | brk id y => rfl
      | fin a => rfl
theorem loop_conj (e : σ → τ) (g : α → β) (f : σ → Option (LRes σ α)) (f' : τ → Option (LRes τ β)) (h : ∀ x, f' (e x) = (f x).map (LRes.map e g)) (k : Nat → σ → Option α) (k' : Nat → τ → Option β) (hk : ∀ id x, k' id (e x) = (k id x).map g) (N : Nat) (x : σ) :
    afterL (iterL N f' (e x)) k' = (afterL (iterL N f x) k).map g := by
  rw [iterL_conj e g f f' h]
  cases iterL N f x with
  | none => rfl
  | some r =>
    cases r with
    | cont y => rfl
    | brk id y => exact hk id y
    | fin a => rfl
end
abbrev swpE : Int × List Int → List Int × Int × Unit := fun p => (p.2, p.1, ())
theorem setC_map {β γ : Type} (f : Int → Int) (c : Int) (t : List Int) (k : List Int → Option β) (k' : List Int → Option γ) (m : β → γ) (hk : ∀ t, k' t = (k t).map m) : setC f γ c t k' = (setC f β c t k).map m := by
  unfold setC
  split
  · exact hk _
  · rfl
theorem touM_eq {α : Type} (N : Nat) (bf bt cf ct w : Int) (dom hit : Int → Bool) (f : Int → Int) (t0 : List Int) (K : List Int → Option α) : touM N bf bt cf ct w dom hit f t0 K = touL N bf bt cf ct w dom hit (setC f) t0 K := by
  unfold touM touL
  refine (loop_conj swpE (id : α → α) _ _ (fun z => ?_) _ _ (fun id x => ?_) N (bf, t0)).trans (by rw [Option.map_id]; rfl)
  · simp only [swpE]
    cases decide (z.1 ≤ bt)
    · rfl
    · simp only [cond_true]
      refine loop_conj swpE (LRes.map swpE (id : α → α)) _ _ (fun v => ?_) _ _ (fun id x => ?_) N (cf, z.2)
      · simp only [swpE]
        cases decide (v.1 ≤ ct)
        · rfl
        · cases dom (IntKind.i64.wrap (IntKind.i64.wrap (z.1 * w) + v.1))
          · rfl
          · cases hit (IntKind.i64.wrap (IntKind.i64.wrap (z.1 * w) + v.1))
            · rfl
            · simp only [cond_true]
              refine setC_map f _ _ _ _ (LRes.map swpE (LRes.map swpE id)) fun t => rfl
      · simp only [swpE]
        split <;> rfl
  · simp only [swpE]
    split
    · rw [Option.map_id]; rfl
    · rfl

/-- The list behind the loops over the cells that a way touches. -/
theorem tou_list {α : Type} (cx cy sd w h : Int) (pb po : List Int) (x y u v : Int) (hb : twB cx cy sd w h pb po x y u v = true) (xs : List Int) (hx : (xs.length : Int) = w * h) (f : Int → Int) (K : List Int → Option α) {N : Nat} (hN : 300 < N) :
    touM N (bdF cy sd h y v) (bdT cy sd h y v) (bdF cx sd w x u) (bdT cx sd w x u) w (isC cx cy sd w h pb po x y u v) (toB cx cy sd w x y u v) f xs K = K (chgL (fun n => toB cx cy sd w x y u v n) f xs) := by
  have hb' := hb
  simp only [twB, Bool.and_eq_true] at hb'
  have g := ice_is _ _ _ _ _ _ _ hb'.1
  obtain ⟨c1, c2⟩ := cels_le g.fw g.fh
  have hcl : cels w h = xs.length := by omega
  rw [touM_eq, tou_ice cx cy sd w h pb po x y u v hb (setC f) (updL f) xs (fun β n k hn => ?_) K hN, hcl, fold_chg]
  have hl := fold_len (fun n => toB cx cy sd w x y u v n) f xs n
  unfold setC
  rw [if_pos ⟨by omega, by omega⟩, if_pos ⟨by omega, by omega⟩, Int.toNat_natCast]
  rfl
def pasB (cx cy sd w h : Int) (pb po : List Int) (fl ke sw be we : Int) (x y u v : Int) : Bool := iceB cx cy sd w h pb po && graB fl ke sw be we && (plcB x y && plcB u v)
theorem list_ok {xs : List Int} {w h : Int} (hw : 1 ≤ w ∧ w ≤ 256) (hh : 1 ≤ h ∧ h ≤ 256) (hx : (xs.length : Int) = w * h) : 0 < xs.length ∧ xs.length ≤ 65536 := by
  have a := mul_in (a := w) (b := h) (A := 256) (B := 256) ⟨by omega, by omega⟩ ⟨by omega, by omega⟩
  have b : 1 * 1 ≤ w * h := Int.mul_le_mul hw.1 hh.1 (by omega) (by omega)
  omega
--AT fsI9 spL twY
--FIN ipass | besom/ice.Pass | $ICB $GB (x y u v : Int) | $ICE, $GR, $S{x y}, $S{u v} | icO cx cy sd w h (chgL (fun i => toB cx cy sd w x y u v i) (fun i => wornV i we) pb) po ?? pasB $ICV $GV x y u v :: icN
theorem ipass_fin (cx cy sd w h : Int) (pb po : List Int) (fl ke sw be we : Int) (x y u v : Int) (hs : ∀ qSm ∈ ([.agg [.int .i64 cx, .int .i64 cy, .int .i64 sd, .int .i64 w, .int .i64 h, .ro (.int .i64) pb, .ro (.int .i64) po], .agg [.int .i64 fl, .int .i64 ke, .int .i64 sw, .int .i64 be, .int .i64 we], .agg [.int .i64 x, .int .i64 y], .agg [.int .i64 u, .int .i64 v]] : List AVal), Sm qSm) : ∃ N n, ∀ α (k : AOut → Option α), evFn real tab ((twY fsI9 spL).env real tab N n) N Tryz.f23 α [.agg [.int .i64 cx, .int .i64 cy, .int .i64 sd, .int .i64 w, .int .i64 h, .ro (.int .i64) pb, .ro (.int .i64) po], .agg [.int .i64 fl, .int .i64 ke, .int .i64 sw, .int .i64 be, .int .i64 we], .agg [.int .i64 x, .int .i64 y], .agg [.int .i64 u, .int .i64 v]] k = bif pasB cx cy sd w h pb po fl ke sw be we x y u v then k (icO cx cy sd w h (chgL (fun i => toB cx cy sd w x y u v i) (fun i => wornV i we) pb) po) else k (icN) := by
  refine ⟨301, 8, fun α k => (ipass_text 301 0 α cx cy sd w h pb po fl ke sw be we x y u v k).trans ?_⟩
  rw [er2_0, er2_0, any_off2]
  unfold pasB
  cases hI : iceB cx cy sd w h pb po
  · rfl
  cases hG : graB fl ke sw be we
  · rfl
  cases hP : plcB x y && plcB u v
  · rfl
  have g := ice_is _ _ _ _ _ _ _ hI
  have hb : twB cx cy sd w h pb po x y u v = true := by unfold twB; rw [hI, hP]; rfl
  have l1 := list_ok g.fw g.fh g.pl
  have l2 := list_ok g.fw g.fh g.ol
  have hP' := hP
  simp only [Bool.and_eq_true, plc_iff] at hP'
  obtain ⟨hp, hq⟩ := hP'
  rw [bd_of g.fc.1 g.fs g.fw hp.1 hq.1, bd_of g.fc.2 g.fs g.fh hp.2 hq.2]
  simp only [Bool.not_true, Bool.not_false, Bool.and_self, cond_false, cond_true]
  rw [if_pos l1.1, if_pos (by simp [room]; omega), List.nil_append, tou_list cx cy sd w h pb po x y u v hb pb g.pl _ _ (by omega), decide_eq_true l2.1, decide_eq_true l2.2]
  rfl
--CON ipass
noncomputable def ipassS : Fsp := fun _ args k => match args with
  | [.agg [.int .i64 cx, .int .i64 cy, .int .i64 sd, .int .i64 w, .int .i64 h, .ro (.int .i64) pb, .ro (.int .i64) po], .agg [.int .i64 fl, .int .i64 ke, .int .i64 sw, .int .i64 be, .int .i64 we], .agg [.int .i64 x, .int .i64 y], .agg [.int .i64 u, .int .i64 v]] => bif pasB cx cy sd w h pb po fl ke sw be we x y u v then k (icO cx cy sd w h (chgL (fun i => toB cx cy sd w x y u v i) (fun i => wornV i we) pb) po) else k (icN)
  | _ => none
theorem ipassS_ok : FspOk Tryz.prog 23 ipassS := tower_Y fsI9_ok spL_ok ⟨Tryz.func23, fun _ _ => by kernel_rfl⟩ (by intro α args k; unfold ipassS; split <;> simp only [cond_bind, Option.bind_some, Option.bind_none]) fun args out hSm hEq => by
  unfold ipassS at hEq
  split at hEq
  · rename_i cx cy sd w h pb po fl ke sw be we x y u v
    obtain ⟨N, n, e⟩ := ipass_fin cx cy sd w h pb po fl ke sw be we x y u v hSm
    exact ⟨N, n, (e AOut some).trans hEq⟩
  · cases hEq
--END
--FIN isweep | besom/ice.Sweep | $ICB (x y u v b : Int) | $ICE, $S{x y}, $S{u v}, $I{b} | icO cx cy sd w h pb (chgL (fun i => toB cx cy sd w x y u v i) (fun i => moreV i b) po) ?? twB $ICV x y u v && grnB b :: icN
theorem isweep_fin (cx cy sd w h : Int) (pb po : List Int) (x y u v b : Int) (hs : ∀ qSm ∈ ([.agg [.int .i64 cx, .int .i64 cy, .int .i64 sd, .int .i64 w, .int .i64 h, .ro (.int .i64) pb, .ro (.int .i64) po], .agg [.int .i64 x, .int .i64 y], .agg [.int .i64 u, .int .i64 v], .int .i64 b] : List AVal), Sm qSm) : ∃ N n, ∀ α (k : AOut → Option α), evFn real tab ((twY fsI9 spL).env real tab N n) N Tryz.f25 α [.agg [.int .i64 cx, .int .i64 cy, .int .i64 sd, .int .i64 w, .int .i64 h, .ro (.int .i64) pb, .ro (.int .i64) po], .agg [.int .i64 x, .int .i64 y], .agg [.int .i64 u, .int .i64 v], .int .i64 b] k = bif twB cx cy sd w h pb po x y u v && grnB b then k (icO cx cy sd w h pb (chgL (fun i => toB cx cy sd w x y u v i) (fun i => moreV i b) po)) else k (icN) := by
  refine ⟨301, 8, fun α k => (isweep_text 301 0 α cx cy sd w h pb po x y u v b k).trans ?_⟩
  rw [celE_le, er2_0, any_off2]
  unfold grnB
  cases hb : twB cx cy sd w h pb po x y u v
  · have hb' := hb
    unfold twB at hb'
    revert hb'
    cases iceB cx cy sd w h pb po <;> cases plcB x y && plcB u v <;> intro hb' <;> first | rfl | cases hb'
  have hb' := hb
  simp only [twB, Bool.and_eq_true] at hb'
  obtain ⟨hI, hP⟩ := hb'
  have g := ice_is _ _ _ _ _ _ _ hI
  have l1 := list_ok g.fw g.fh g.pl
  have l2 := list_ok g.fw g.fh g.ol
  have hp := plc_iff.1 hP.1
  have hq := plc_iff.1 hP.2
  rw [hI, hP.1, hP.2, bd_of g.fc.1 g.fs g.fw hp.1 hq.1, bd_of g.fc.2 g.fs g.fh hp.2 hq.2]
  cases decide (0 ≤ b)
  · rfl
  cases decide (b ≤ 1000)
  · rfl
  simp only [Bool.not_true, Bool.not_false, Bool.and_self, cond_false, cond_true]
  rw [if_pos l2.1, if_pos (by simp [room]; omega), List.nil_append, tou_list cx cy sd w h pb po x y u v hb po g.ol _ _ (by omega), decide_eq_true l1.1, decide_eq_true l1.2]
  rfl
--CON isweep
noncomputable def isweepS : Fsp := fun _ args k => match args with
  | [.agg [.int .i64 cx, .int .i64 cy, .int .i64 sd, .int .i64 w, .int .i64 h, .ro (.int .i64) pb, .ro (.int .i64) po], .agg [.int .i64 x, .int .i64 y], .agg [.int .i64 u, .int .i64 v], .int .i64 b] => bif twB cx cy sd w h pb po x y u v && grnB b then k (icO cx cy sd w h pb (chgL (fun i => toB cx cy sd w x y u v i) (fun i => moreV i b) po)) else k (icN)
  | _ => none
theorem isweepS_ok : FspOk Tryz.prog 25 isweepS := tower_Y fsI9_ok spL_ok ⟨Tryz.func25, fun _ _ => by kernel_rfl⟩ (by intro α args k; unfold isweepS; split <;> simp only [cond_bind, Option.bind_some, Option.bind_none]) fun args out hSm hEq => by
  unfold isweepS at hEq
  split at hEq
  · rename_i cx cy sd w h pb po x y u v b
    obtain ⟨N, n, e⟩ := isweep_fin cx cy sd w h pb po x y u v b hSm
    exact ⟨N, n, (e AOut some).trans hEq⟩
  · cases hEq
--END
theorem fad_list {α : Type} (xs : List Int) (hx : xs.length ≤ 65536) {wh : Int} (hw : (xs.length : Int) = wh) (f : Int → Int) (K : Nat → List Int × Int × Unit → Option α) {N : Nat} (hN : xs.length < N) :
    afterL (iterL N (fadF wh f) (xs, 0, ())) K = K 0 (chgL (fun _ => true) f xs, (xs.length : Int), ()) := by
  have key := count_loop (f := fadF wh f) (K := K) (fun i : Nat => (foldC (fun _ => true) (updL f) xs i, (i : Int), ())) xs.length (b := 0) (y := (foldC (fun _ => true) (updL f) xs xs.length, (xs.length : Int), ())) (fun i hi => ?_) ?_ hN
  · rw [fold_chg] at key; exact key
  · unfold fadF
    rw [decide_eq_true (show (i : Int) < wh by omega), cond_true, setK_eq f hi (fold_len ..) hx]
    rfl
  · unfold fadF
    rw [decide_eq_false (show ¬ (xs.length : Int) < wh by omega)]
    rfl
--FIN ifade | besom/ice.Fade | $ICB (b : Int) | $ICE, $I{b} | icO cx cy sd w h pb (chgL (fun _ => true) (fun i => wornV i b) po) ?? iceB $ICV && grnB b :: icN
theorem ifade_fin (cx cy sd w h : Int) (pb po : List Int) (b : Int) (hs : ∀ qSm ∈ ([.agg [.int .i64 cx, .int .i64 cy, .int .i64 sd, .int .i64 w, .int .i64 h, .ro (.int .i64) pb, .ro (.int .i64) po], .int .i64 b] : List AVal), Sm qSm) : ∃ N n, ∀ α (k : AOut → Option α), evFn real tab ((twY fsI9 spL).env real tab N n) N Tryz.f30 α [.agg [.int .i64 cx, .int .i64 cy, .int .i64 sd, .int .i64 w, .int .i64 h, .ro (.int .i64) pb, .ro (.int .i64) po], .int .i64 b] k = bif iceB cx cy sd w h pb po && grnB b then k (icO cx cy sd w h pb (chgL (fun _ => true) (fun i => wornV i b) po)) else k (icN) := by
  refine ⟨65537, 8, fun α k => (ifade_text 65537 0 α cx cy sd w h pb po b k).trans ?_⟩
  rw [celE_le, er2_0]
  unfold grnB
  cases hI : iceB cx cy sd w h pb po
  · rfl
  cases decide (0 ≤ b)
  · rfl
  cases decide (b ≤ 1000)
  · rfl
  have g := ice_is _ _ _ _ _ _ _ hI
  have l1 := list_ok g.fw g.fh g.pl
  have l2 := list_ok g.fw g.fh g.ol
  have hw := g.ol
  simp only [Bool.not_true, Bool.not_false, Bool.and_self, cond_false, cond_true]
  rw [if_pos l2.1, if_pos (by simp [room]; omega), List.nil_append, i64_in (w * h) (by omega), fad_list po l2.2 hw _ _ (by omega), if_pos rfl, decide_eq_true l1.1, decide_eq_true l1.2]
  rfl
--CON ifade
noncomputable def ifadeS : Fsp := fun _ args k => match args with
  | [.agg [.int .i64 cx, .int .i64 cy, .int .i64 sd, .int .i64 w, .int .i64 h, .ro (.int .i64) pb, .ro (.int .i64) po], .int .i64 b] => bif iceB cx cy sd w h pb po && grnB b then k (icO cx cy sd w h pb (chgL (fun _ => true) (fun i => wornV i b) po)) else k (icN)
  | _ => none
theorem ifadeS_ok : FspOk Tryz.prog 30 ifadeS := tower_Y fsI9_ok spL_ok ⟨Tryz.func30, fun _ _ => by kernel_rfl⟩ (by intro α args k; unfold ifadeS; split <;> simp only [cond_bind, Option.bind_some, Option.bind_none]) fun args out hSm hEq => by
  unfold ifadeS at hEq
  split at hEq
  · rename_i cx cy sd w h pb po b
    obtain ⟨N, n, e⟩ := ifade_fin cx cy sd w h pb po b hSm
    exact ⟨N, n, (e AOut some).trans hEq⟩
  · cases hEq
--END
def bxvB (cx cy sd w h : Int) (pb po : List Int) (x y u v : Int) : Bool := iceB cx cy sd w h pb po && (plcB x y && plcB u v) && (decide (x ≤ u) && decide (y ≤ v))
def sprB (w tn c : Int) : Bool := (c % w + c / w + tn) % 2 == 0
theorem spyK_eq {α : Type} {w tn b : Int} (hw : 1 ≤ w ∧ w ≤ 256) (ht : 0 ≤ tn ∧ tn ≤ 1) {t : List Int} {i n : Nat} (hi : i < n) (hl : t.length = n) (hn : n ≤ 65536) : spyK (α := α) w tn b (t, (i : Int), ()) = bif sprB w tn i then some (.cont (updL (fun z => moreV z b) i t, ((i + 1 : Nat) : Int), ())) else some (.cont (t, ((i + 1 : Nat) : Int), ())) := by
  have a := Int.emod_nonneg (i : Int) (show w ≠ 0 by omega)
  have b' := Int.emod_lt_of_pos (i : Int) (show 0 < w by omega)
  have c := Int.ediv_nonneg (show (0 : Int) ≤ i by omega) (show 0 ≤ w by omega)
  have d : (i : Int) / w ≤ i := Int.ediv_le_self _ (by omega)
  unfold spyK sprB
  simp only
  rw [if_neg (by omega), if_neg (by omega), setK_eq _ hi hl hn, Int.tmod_eq_emod_of_nonneg (show (0 : Int) ≤ i by omega), tdiv_pos (by omega), i64_in ((i : Int) / w) (by omega), i64_in ((i : Int) % w + (i : Int) / w) (by omega), i64_in ((i : Int) % w + (i : Int) / w + tn) (by omega), Int.tmod_eq_emod_of_nonneg (by omega)]
  show (bif _ then _ else some (LRes.cont (t, IntKind.i64.wrap ((i : Int) + 1), ()))) = _
  rw [i64_in ((i : Int) + 1) (by omega)]
  rfl
--FIN ispray | besom/ice.Spray | $ICB (x y u v b tn : Int) | $ICE, $S{x y}, $S{u v}, $I{b}, $I{tn} | icO cx cy sd w h (chgL (fun i => inBx cx cy sd w x y u v i && sprB w tn i) (fun i => moreV i b) pb) po ?? bxvB $ICV x y u v && (grnB b && (decide (0 ≤ tn) && decide (tn ≤ 1))) :: icN
theorem ispray_fin (cx cy sd w h : Int) (pb po : List Int) (x y u v b tn : Int) (hs : ∀ qSm ∈ ([.agg [.int .i64 cx, .int .i64 cy, .int .i64 sd, .int .i64 w, .int .i64 h, .ro (.int .i64) pb, .ro (.int .i64) po], .agg [.int .i64 x, .int .i64 y], .agg [.int .i64 u, .int .i64 v], .int .i64 b, .int .i64 tn] : List AVal), Sm qSm) : ∃ N n, ∀ α (k : AOut → Option α), evFn real tab ((twY fsI9 spL).env real tab N n) N Tryz.f34 α [.agg [.int .i64 cx, .int .i64 cy, .int .i64 sd, .int .i64 w, .int .i64 h, .ro (.int .i64) pb, .ro (.int .i64) po], .agg [.int .i64 x, .int .i64 y], .agg [.int .i64 u, .int .i64 v], .int .i64 b, .int .i64 tn] k = bif bxvB cx cy sd w h pb po x y u v && (grnB b && (decide (0 ≤ tn) && decide (tn ≤ 1))) then k (icO cx cy sd w h (chgL (fun i => inBx cx cy sd w x y u v i && sprB w tn i) (fun i => moreV i b) pb) po) else k (icN) := by
  refine ⟨65537, 8, fun α k => (ispray_text 65537 0 α cx cy sd w h pb po x y u v b tn k).trans ?_⟩
  rw [er2_0, any_off2, Bool.not_not]
  unfold bxvB grnB
  cases hI : iceB cx cy sd w h pb po
  · rfl
  cases hP : plcB x y && plcB u v
  · rfl
  cases decide (x ≤ u)
  · rfl
  cases decide (y ≤ v)
  · rfl
  cases decide (0 ≤ b)
  · rfl
  cases decide (b ≤ 1000)
  · rfl
  cases h1 : decide (0 ≤ tn)
  · rfl
  cases h2 : decide (tn ≤ 1)
  · rfl
  have g := ice_is _ _ _ _ _ _ _ hI
  have l1 := list_ok g.fw g.fh g.pl
  have l2 := list_ok g.fw g.fh g.ol
  obtain ⟨c1, c2⟩ := cels_le g.fw g.fh
  have hpl := g.pl
  simp only [Bool.not_true, Bool.not_false, Bool.and_self, cond_false, cond_true]
  rw [if_pos l1.1, if_pos (by simp [room]; omega), List.nil_append, bx_list cx cy sd w h pb po x y u v g pb g.pl (fun i => moreV i b) (fun i => sprB w tn i) (spyK w tn b) (fun t i hi ht => spyK_eq g.fw ⟨of_decide_eq_true h1, of_decide_eq_true h2⟩ hi (by omega) c1) _ (by omega), if_pos rfl, decide_eq_true l2.1, decide_eq_true l2.2]
  rfl
--CON ispray
noncomputable def isprayS : Fsp := fun _ args k => match args with
  | [.agg [.int .i64 cx, .int .i64 cy, .int .i64 sd, .int .i64 w, .int .i64 h, .ro (.int .i64) pb, .ro (.int .i64) po], .agg [.int .i64 x, .int .i64 y], .agg [.int .i64 u, .int .i64 v], .int .i64 b, .int .i64 tn] => bif bxvB cx cy sd w h pb po x y u v && (grnB b && (decide (0 ≤ tn) && decide (tn ≤ 1))) then k (icO cx cy sd w h (chgL (fun i => inBx cx cy sd w x y u v i && sprB w tn i) (fun i => moreV i b) pb) po) else k (icN)
  | _ => none
theorem isprayS_ok : FspOk Tryz.prog 34 isprayS := tower_Y fsI9_ok spL_ok ⟨Tryz.func34, fun _ _ => by kernel_rfl⟩ (by intro α args k; unfold isprayS; split <;> simp only [cond_bind, Option.bind_some, Option.bind_none]) fun args out hSm hEq => by
  unfold isprayS at hEq
  split at hEq
  · rename_i cx cy sd w h pb po x y u v b tn
    obtain ⟨N, n, e⟩ := ispray_fin cx cy sd w h pb po x y u v b tn hSm
    exact ⟨N, n, (e AOut some).trans hEq⟩
  · cases hEq
--END
/-- The sum of the pebble in a box, and how many cells it has. -/
def meaS (hit : Nat → Bool) (pb : List Int) (n : Nat) : Int := foldC hit (fun i (t : Int) => t + pb.getD i 0) 0 n
def meaN (hit : Nat → Bool) (n : Nat) : Int := foldC hit (fun _ (t : Int) => t + 1) 0 n
theorem mea_in (hit : Nat → Bool) {pb : List Int} (hg : pb.all grnB = true) : ∀ n : Nat, (0 ≤ meaS hit pb n ∧ meaS hit pb n ≤ 1000 * n) ∧ 0 ≤ meaN hit n ∧ meaN hit n ≤ n
  | 0 => by simp [meaS, meaN, foldC]
  | n + 1 => by
    have ih := mea_in hit hg n
    have a := grn_at hg n
    unfold meaS meaN at *
    simp only [foldC]
    cases hit n <;> simp only [cond_true, cond_false] <;> omega
--FIN imean | besom/ice.Mean | $ICB (x y u v : Int) | $ICE, $S{x y}, $S{u v} | i3 (meaS (fun i => inBx cx cy sd w x y u v i) pb (cels w h)) (meaN (fun i => inBx cx cy sd w x y u v i) (cels w h)) 0 ?? bxvB $ICV x y u v :: i3 0 0 2
theorem imean_fin (cx cy sd w h : Int) (pb po : List Int) (x y u v : Int) (hs : ∀ qSm ∈ ([.agg [.int .i64 cx, .int .i64 cy, .int .i64 sd, .int .i64 w, .int .i64 h, .ro (.int .i64) pb, .ro (.int .i64) po], .agg [.int .i64 x, .int .i64 y], .agg [.int .i64 u, .int .i64 v]] : List AVal), Sm qSm) : ∃ N n, ∀ α (k : AOut → Option α), evFn real tab ((twY fsI9 spL).env real tab N n) N Tryz.f36 α [.agg [.int .i64 cx, .int .i64 cy, .int .i64 sd, .int .i64 w, .int .i64 h, .ro (.int .i64) pb, .ro (.int .i64) po], .agg [.int .i64 x, .int .i64 y], .agg [.int .i64 u, .int .i64 v]] k = bif bxvB cx cy sd w h pb po x y u v then k (i3 (meaS (fun i => inBx cx cy sd w x y u v i) pb (cels w h)) (meaN (fun i => inBx cx cy sd w x y u v i) (cels w h)) 0) else k (i3 0 0 2) := by
  refine ⟨65537, 8, fun α k => (imean_text 65537 0 α cx cy sd w h pb po x y u v k).trans ?_⟩
  rw [er2_0, any_off2, Bool.not_not]
  unfold bxvB
  cases hI : iceB cx cy sd w h pb po
  · rfl
  cases hP : plcB x y && plcB u v
  · rfl
  cases decide (x ≤ u)
  · rfl
  cases decide (y ≤ v)
  · rfl
  have g := ice_is _ _ _ _ _ _ _ hI
  obtain ⟨c1, c2⟩ := cels_le g.fw g.fh
  have hpl := g.pl
  simp only [Bool.not_true, Bool.and_self, cond_false, cond_true]
  refine (bx_loop cx cy sd w h pb po x y u v g (fun z : Int × Int × Int × Unit => z.1) nxM (meaK pb) (fun i : Nat => ((i : Int), meaS (fun i => inBx cx cy sd w x y u v i) pb i, meaN (fun i => inBx cx cy sd w x y u v i) i, ())) (fun i => rfl) (fun i hi hh => ?_) (fun i hi hh => ?_) _ (by omega)).trans ?_
  · have m := mea_in (fun i => inBx cx cy sd w x y u v i) g.pg i
    have a := grn_at g.pg i
    unfold meaK
    simp only [Int.toNat_natCast]
    rw [if_pos ⟨by omega, by omega⟩, i64_in ((i : Int) + 1) (by omega), i64_in (meaS (fun i => inBx cx cy sd w x y u v i) pb i + pb.getD i 0) (by omega), i64_in (meaN (fun i => inBx cx cy sd w x y u v i) i + 1) (by omega)]
    unfold meaS meaN
    simp only [foldC, hh, cond_true]
    rfl
  · show (IntKind.i64.wrap ((i : Int) + 1), _, _, ()) = _
    rw [i64_in ((i : Int) + 1) (by omega)]
    unfold meaS meaN
    simp only [foldC, hh, cond_false]
    rfl
  · rw [if_pos rfl]
--CON imean
noncomputable def imeanS : Fsp := fun _ args k => match args with
  | [.agg [.int .i64 cx, .int .i64 cy, .int .i64 sd, .int .i64 w, .int .i64 h, .ro (.int .i64) pb, .ro (.int .i64) po], .agg [.int .i64 x, .int .i64 y], .agg [.int .i64 u, .int .i64 v]] => bif bxvB cx cy sd w h pb po x y u v then k (i3 (meaS (fun i => inBx cx cy sd w x y u v i) pb (cels w h)) (meaN (fun i => inBx cx cy sd w x y u v i) (cels w h)) 0) else k (i3 0 0 2)
  | _ => none
theorem imeanS_ok : FspOk Tryz.prog 36 imeanS := tower_Y fsI9_ok spL_ok ⟨Tryz.func36, fun _ _ => by kernel_rfl⟩ (by intro α args k; unfold imeanS; split <;> simp only [cond_bind, Option.bind_some, Option.bind_none]) fun args out hSm hEq => by
  unfold imeanS at hEq
  split at hEq
  · rename_i cx cy sd w h pb po x y u v
    obtain ⟨N, n, e⟩ := imean_fin cx cy sd w h pb po x y u v hSm
    exact ⟨N, n, (e AOut some).trans hEq⟩
  · cases hEq
--END
--AT fsI10 spL twY
--FIN iscrape | besom/ice.Scrape | $ICB (x y u v b : Int) | $ICE, $S{x y}, $S{u v}, $I{b} | icO cx cy sd w h (chgL (fun i => inBx cx cy sd w x y u v i && true) (fun i => capV i b) pb) (chgL (fun i => inBx cx cy sd w x y u v i && true) (fun _ => 0) po) ?? bxvB $ICV x y u v && grnB b :: icN
theorem iscrape_fin (cx cy sd w h : Int) (pb po : List Int) (x y u v b : Int) (hs : ∀ qSm ∈ ([.agg [.int .i64 cx, .int .i64 cy, .int .i64 sd, .int .i64 w, .int .i64 h, .ro (.int .i64) pb, .ro (.int .i64) po], .agg [.int .i64 x, .int .i64 y], .agg [.int .i64 u, .int .i64 v], .int .i64 b] : List AVal), Sm qSm) : ∃ N n, ∀ α (k : AOut → Option α), evFn real tab ((twY fsI10 spL).env real tab N n) N Tryz.f32 α [.agg [.int .i64 cx, .int .i64 cy, .int .i64 sd, .int .i64 w, .int .i64 h, .ro (.int .i64) pb, .ro (.int .i64) po], .agg [.int .i64 x, .int .i64 y], .agg [.int .i64 u, .int .i64 v], .int .i64 b] k = bif bxvB cx cy sd w h pb po x y u v && grnB b then k (icO cx cy sd w h (chgL (fun i => inBx cx cy sd w x y u v i && true) (fun i => capV i b) pb) (chgL (fun i => inBx cx cy sd w x y u v i && true) (fun _ => 0) po)) else k (icN) := by
  refine ⟨65537, 8, fun α k => (iscrape_text 65537 0 α cx cy sd w h pb po x y u v b k).trans ?_⟩
  rw [er2_0, any_off2, Bool.not_not]
  unfold bxvB grnB
  cases hI : iceB cx cy sd w h pb po
  · rfl
  cases hP : plcB x y && plcB u v
  · rfl
  cases decide (x ≤ u)
  · rfl
  cases decide (y ≤ v)
  · rfl
  cases decide (0 ≤ b)
  · rfl
  cases decide (b ≤ 1000)
  · rfl
  have g := ice_is _ _ _ _ _ _ _ hI
  have l1 := list_ok g.fw g.fh g.pl
  obtain ⟨c1, c2⟩ := cels_le g.fw g.fh
  have hpl := g.pl
  have hol : lnB po w h = true := by unfold lnB; rw [g.ol]; simp
  simp only [Bool.not_true, Bool.not_false, Bool.and_self, cond_false, cond_true]
  rw [if_pos l1.1, if_pos (by simp [room]; omega), List.nil_append, bx_list cx cy sd w h pb po x y u v g pb g.pl (fun i => capV i b) (fun _ => true) (setK fun n => capV n b) (fun t i hi ht => by rw [setK_eq _ hi (by omega) c1]; rfl) _ (by omega), if_pos rfl, hol]
  rfl
--CON iscrape
noncomputable def iscrapeS : Fsp := fun _ args k => match args with
  | [.agg [.int .i64 cx, .int .i64 cy, .int .i64 sd, .int .i64 w, .int .i64 h, .ro (.int .i64) pb, .ro (.int .i64) po], .agg [.int .i64 x, .int .i64 y], .agg [.int .i64 u, .int .i64 v], .int .i64 b] => bif bxvB cx cy sd w h pb po x y u v && grnB b then k (icO cx cy sd w h (chgL (fun i => inBx cx cy sd w x y u v i && true) (fun i => capV i b) pb) (chgL (fun i => inBx cx cy sd w x y u v i && true) (fun _ => 0) po)) else k (icN)
  | _ => none
theorem iscrapeS_ok : FspOk Tryz.prog 32 iscrapeS := tower_Y fsI10_ok spL_ok ⟨Tryz.func32, fun _ _ => by kernel_rfl⟩ (by intro α args k; unfold iscrapeS; split <;> simp only [cond_bind, Option.bind_some, Option.bind_none]) fun args out hSm hEq => by
  unfold iscrapeS at hEq
  split at hEq
  · rename_i cx cy sd w h pb po x y u v b
    obtain ⟨N, n, e⟩ := iscrape_fin cx cy sd w h pb po x y u v b hSm
    exact ⟨N, n, (e AOut some).trans hEq⟩
  · cases hEq
--END
--FS fsI11 | fsI9 | ipass;isweep;ifade;ispray;imean;iscrape
noncomputable def fsI11 : FuncId → Option Fsp := fun g =>
  if g = 23 then some ipassS else
  if g = 25 then some isweepS else
  if g = 30 then some ifadeS else
  if g = 34 then some isprayS else
  if g = 36 then some imeanS else
  if g = 32 then some iscrapeS else
  fsI9 g
theorem fsI11_ok : FsOk fsI11 :=
  fs_cons ipassS_ok <|
  fs_cons isweepS_ok <|
  fs_cons ifadeS_ok <|
  fs_cons isprayS_ok <|
  fs_cons imeanS_ok <|
  fs_cons iscrapeS_ok <|
  fsI9_ok
--END
end Go.Proofs.YtbcjhjidhhecaaaGreat

/- IcePlaces: greatest common divisors, lists that are the same; the statement's text. -/
namespace Go.Proofs.YtbcjhjidhhecaaaGreat
open Go.RowKit

section
variable {α : Type}
def gcdF : Int × Int × Unit → Option (LRes (Int × Int × Unit) α) := fun x =>
  bif decide (x.2.1 > 0) then
    if x.2.1 = 0 then none else some (LRes.cont (x.2.1, x.1.tmod x.2.1, ()))
  else some (LRes.brk 0 (x.1, x.2.1, ()))
theorem gcd_loop : ∀ (m a b : Nat), b ≤ m → iterL (α := α) (m + 1) gcdF ((a : Int), (b : Int), ()) = some (.brk 0 ((Nat.gcd a b : Nat), 0, ()))
  | 0, a, b, hb => by
    have : b = 0 := by omega
    subst this
    simp [iterL, gcdF]
  | m + 1, a, b, hb => by
    rcases Nat.eq_zero_or_pos b with rfl | h0
    · simp [iterL, gcdF]
    · have e : gcdF (α := α) ((a : Int), (b : Int), ()) = some (LRes.cont ((b : Int), ((a % b : Nat) : Int), ())) := by
        unfold gcdF
        simp only
        rw [decide_eq_true (show (b : Int) > 0 by omega), cond_true, if_neg (by omega), Int.tmod_eq_emod_of_nonneg (by omega)]
        simp
      have ih := gcd_loop m b (a % b) (by have := Nat.mod_lt a h0; omega)
      conv => lhs; unfold iterL
      rw [e]
      simp only
      rw [ih, Nat.gcd_comm a b, Nat.gcd_rec b a, Nat.gcd_comm]
end
def smlB (a : Int) : Bool := decide (-70368744177664 ≤ a) && decide (a ≤ 70368744177664)
def gcdI (a b : Int) : Int := (Nat.gcd a.natAbs b.natAbs : Nat)
theorem mx_abs {a : Int} (h : smlB a = true) : mx a (IntKind.i64.wrap (0 - a)) = (a.natAbs : Int) := by
  simp only [smlB, Bool.and_eq_true, decide_eq_true_eq] at h
  rw [i64_in (0 - a) (by omega)]
  unfold mx
  split <;> omega
--CON igcd
noncomputable def igcdS : Fsp := fun _ args k => match args with
  | [.int .i64 a, .int .i64 b] => bif smlB a && smlB b then k (i1 (gcdI a b)) else none
  | _ => none
--END
theorem iints_text (N n0 : Nat) (α : Type) (xs ys : List Int) (k : AOut → Option α) : evFn real tab ((twY fsIb spL).env real tab N (n0 + 8)) N Tryz.f27 α [.ro (.int .i64) xs, .ro (.int .i64) ys] k =
    bif (xs.length : Int) != (ys.length : Int) then k (b1 false)
    else
      afterL (iterL N (fun x : Int × Unit =>
        bif decide (x.1 < (xs.length : Int)) then
          if 0 ≤ x.1 ∧ x.1 < (xs.length : Int) then
            if 0 ≤ x.1 ∧ x.1 < (ys.length : Int) then
              bif xs.getD x.1.toNat 0 != ys.getD x.1.toNat 0 then finL (k (b1 false))
              else some (LRes.cont (IntKind.i64.wrap (x.1 + 1), ()))
            else none
          else none
        else some (LRes.brk 0 (x.1, ()))) (0, ())) fun id _ => if id = 0 then k (b1 true) else none := by kernel_rfl
theorem list_eq_getD {xs ys : List Int} (h : xs.length = ys.length) : (!(List.range xs.length).any fun i => xs.getD i 0 != ys.getD i 0) = (xs == ys) := by
  rw [Bool.eq_iff_iff, Bool.not_eq_true', beq_iff_eq]
  constructor
  · intro hn
    refine List.ext_getElem h fun i h1 h2 => ?_
    have : ¬ (xs.getD i 0 != ys.getD i 0) = true := fun hc => by
      have := (List.any_eq_true (p := fun i => xs.getD i 0 != ys.getD i 0)).2 ⟨i, List.mem_range.2 h1, hc⟩
      rw [hn] at this; cases this
    rw [List.getD_eq_getElem?_getD, List.getD_eq_getElem?_getD, List.getElem?_eq_getElem h1, List.getElem?_eq_getElem h2] at this
    simpa using this
  · rintro rfl
    simp
--FIN iints | besom/besomref03.Ints | (xs ys : List Int) | .ro (.int .i64) xs, .ro (.int .i64) ys | b1 (BEq.beq (α := List Int) xs ys)
theorem iints_fin (xs ys : List Int) (hs : ∀ qSm ∈ ([.ro (.int .i64) xs, .ro (.int .i64) ys] : List AVal), Sm qSm) : ∃ N n, ∀ α (k : AOut → Option α), evFn real tab ((twY fsIb spL).env real tab N n) N Tryz.f27 α [.ro (.int .i64) xs, .ro (.int .i64) ys] k = k (b1 (BEq.beq (α := List Int) xs ys)) := by
  have hl : xs.length ≤ maxLen := (hs _ (List.mem_cons_self ..)).len
  refine ⟨xs.length + 1, 8, fun α k => (iints_text (xs.length + 1) 0 α xs ys k).trans ?_⟩
  by_cases hn : xs.length = ys.length
  · rw [show ((xs.length : Int) != (ys.length : Int)) = false by simp [hn], cond_false]
    refine (any_loop (fun i : Nat => ((i : Int), ())) xs.length (fun i => xs.getD i 0 != ys.getD i 0) (b := 0) (y := ((xs.length : Int), ())) (k (b1 false)) (fun i hi => ?_) ?_).trans ?_
    · simp only [lt_len hi, cond_true]
      rw [if_pos (in_len hi), if_pos (in_len (by omega)), wrap_next hi hl]
      rfl
    · simp only [not_lt_len, cond_false]
    · have e := list_eq_getD hn
      rw [← e]
      cases (List.range xs.length).any fun i => xs.getD i 0 != ys.getD i 0 <;> rfl
  · rw [show ((xs.length : Int) != (ys.length : Int)) = true by simp; omega, cond_true]
    have : (xs == ys) = false := by
      rw [beq_eq_false_iff_ne]; rintro rfl; exact hn rfl
    rw [this]
--CON iints
noncomputable def iintsS : Fsp := fun _ args k => match args with
  | [.ro (.int .i64) xs, .ro (.int .i64) ys] => k (b1 (BEq.beq (α := List Int) xs ys))
  | _ => none
theorem iintsS_ok : FspOk Tryz.prog 27 iintsS := tower_Y fsIb_ok spL_ok ⟨Tryz.func27, fun _ _ => by kernel_rfl⟩ (by intro α args k; unfold iintsS; split <;> rfl) fun args out hSm hEq => by
  unfold iintsS at hEq
  split at hEq
  · rename_i xs ys
    obtain ⟨N, n, e⟩ := iints_fin xs ys hSm
    exact ⟨N, n, (e AOut some).trans hEq⟩
  · cases hEq
--END
--FS fsIc | fsIb | igcd;iints
noncomputable def fsIc : FuncId → Option Fsp := fun g =>
  if g = 27 then some iintsS else
  fsIb g
theorem fsIc_ok : FsOk fsIc :=
  fs_cons iintsS_ok <|
  fsIb_ok
--END
end Go.Proofs.YtbcjhjidhhecaaaGreat

/- IceScraped: ices that are the same; its text. -/
namespace Go.Proofs.YtbcjhjidhhecaaaGreat
open Go.RowKit

--FS fsIs | fsI11 | ialive=besom/besomlaw03.alive;iints=besom/besomref03.Ints
noncomputable def fsIs : FuncId → Option Fsp := fun g =>
  if g = 8 then some ialiveS else
  if g = 27 then some iintsS else
  fsI11 g
theorem fsIs_ok : FsOk fsIs :=
  fs_cons ialiveS_ok <|
  fs_cons iintsS_ok <|
  fsI11_ok
--END
--AT fsIs spL twY
def sameB (cx cy sd w h : Int) (pb po : List Int) (cx' cy' sd' w' h' : Int) (pb' po' : List Int) : Bool :=
  ((cx == cx' && cy == cy') && (sd == sd' && (w == w' && h == h'))) && (BEq.beq (α := List Int) pb pb' && BEq.beq (α := List Int) po po')
section
variable {α : Type}
def cmpF (b : Nat) (xs ys : List Int) (kf : Option α) (x : Int × Unit) : Option (LRes (Int × Unit) α) :=
  bif decide (x.1 < (xs.length : Int)) then
    if 0 ≤ x.1 ∧ x.1 < (xs.length : Int) then
      if 0 ≤ x.1 ∧ x.1 < (ys.length : Int) then
        bif xs.getD x.1.toNat 0 != ys.getD x.1.toNat 0 then finL kf
        else some (LRes.cont (IntKind.i64.wrap (x.1 + 1), ()))
      else none
    else none
  else some (LRes.brk b (x.1, ()))
/-- As iterL_any, with more fuel than is needed. -/
theorem any_from {σ : Type} {f : σ → Option (LRes σ α)} (st : Nat → σ) (p : Nat → Bool) {R E : Option (LRes σ α)} (hR : ∀ y, R ≠ some (.cont y)) (hE : ∀ y, E ≠ some (.cont y)) (n : Nat) (h : ∀ i, i < n → f (st i) = bif p i then R else some (.cont (st (i + 1)))) (hend : f (st n) = E) :
    ∀ k m, m + k = n → ∀ N, k < N → iterL N f (st m) = bif (List.range' m k).any p then R else E
  | 0, m, hm, N, hN => by
    cases N with
    | zero => omega
    | succ N =>
      have : m = n := by omega
      subst this
      simp only [iterL, hend]
      simp only [List.range'_zero, List.any_nil, cond_false]
  | k + 1, m, hm, N, hN => by
    cases N with
    | zero => omega
    | succ N =>
      have hf := h m (by omega)
      have ih := any_from st p hR hE n h hend k (m + 1) (by omega) N (by omega)
      rw [List.range'_succ, List.any_cons]
      cases hp : p m
      · rw [hp] at hf
        rw [Bool.false_or, ← ih]
        conv => lhs; unfold iterL
        rw [hf]
        rfl
      · rw [hp] at hf
        simp only [iterL, hf, cond_true, Bool.true_or]
theorem any_loop' {σ : Type} {f : σ → Option (LRes σ α)} {K : Nat → σ → Option α} (st : Nat → σ) (n : Nat) (p : Nat → Bool) {b : Nat} {y : σ} (R : Option α) (h : ∀ i, i < n → f (st i) = bif p i then finL R else some (.cont (st (i + 1)))) (hend : f (st n) = some (.brk b y)) {N : Nat} (hN : n < N) : afterL (iterL N f (st 0)) K = bif (List.range n).any p then R else K b y := by
  rw [any_from st p (fin_not R) (brk_not b y) n h hend n 0 (by omega) N hN, ← List.range_eq_range']
  cases (List.range n).any p
  · rfl
  · cases R <;> rfl
theorem cmp_loop (b : Nat) (xs ys : List Int) (kf K : Option α) (hn : xs.length = ys.length) (hl : xs.length ≤ maxLen) {N : Nat} (hN : xs.length < N) :
    (afterL (iterL N (cmpF b xs ys kf) (0, ())) fun id _ => if id = b then K else none) = bif BEq.beq (α := List Int) xs ys then K else kf := by
  refine (any_loop' (fun i : Nat => ((i : Int), ())) xs.length (fun i => xs.getD i 0 != ys.getD i 0) (b := b) (y := ((xs.length : Int), ())) kf (fun i hi => ?_) ?_ hN).trans ?_
  · unfold cmpF
    simp only [lt_len hi, cond_true]
    rw [if_pos (in_len hi), if_pos (in_len (by omega)), wrap_next hi hl]
    rfl
  · unfold cmpF
    simp only [not_lt_len, cond_false]
  · have e := list_eq_getD hn
    rw [← e, if_pos rfl]
    cases (List.range xs.length).any fun i => xs.getD i 0 != ys.getD i 0 <;> rfl
theorem Sm.at {cs : List AVal} {j : Nat} {c : AVal} (h : Sm (.agg cs)) (hc : cs[j]? = some c) : Sm c := by
  cases h with
  | agg _ h => exact h j c hc
  | other _ h => cases h
theorem len_ne {xs ys : List Int} (h : ¬ xs.length = ys.length) : (BEq.beq (α := List Int) xs ys) = false := by
  rw [beq_eq_false_iff_ne]; rintro rfl; exact h rfl
end
set_option maxRecDepth 100000 in
theorem isame_text (N n0 : Nat) (α : Type) (cx cy sd w h : Int) (pb po : List Int) (cx' cy' sd' w' h' : Int) (pb' po' : List Int) (k : AOut → Option α) : evFn real tab ((twY fsIs spL).env real tab N (n0 + 8)) N Tryz.f29 α [.agg [.int .i64 cx, .int .i64 cy, .int .i64 sd, .int .i64 w, .int .i64 h, .ro (.int .i64) pb, .ro (.int .i64) po], .agg [.int .i64 cx', .int .i64 cy', .int .i64 sd', .int .i64 w', .int .i64 h', .ro (.int .i64) pb', .ro (.int .i64) po']] k =
    bif !(cx == cx' && (cy == cy' && true)) then k (b1 false) else
    bif sd != sd' then k (b1 false) else
    bif w != w' then k (b1 false) else
    bif h != h' then k (b1 false) else
    bif (pb.length : Int) != (pb'.length : Int) then k (b1 false) else
    bif (po.length : Int) != (po'.length : Int) then k (b1 false) else
      afterL (iterL N (cmpF 0 pb pb' (k (b1 false))) (0, ())) fun id _ => if id = 0 then
        afterL (iterL N (cmpF 2 po po' (k (b1 false))) (0, ())) fun id _ => if id = 2 then k (b1 true) else none
      else none := by kernel_rfl
--FIN isame | besom/besomref03.Same | $ICB $JCB | $ICE, $JCE | b1 (sameB $ICV $JCV)
theorem isame_fin (cx cy sd w h : Int) (pb po : List Int) (cx' cy' sd' w' h' : Int) (pb' po' : List Int) (hs : ∀ qSm ∈ ([.agg [.int .i64 cx, .int .i64 cy, .int .i64 sd, .int .i64 w, .int .i64 h, .ro (.int .i64) pb, .ro (.int .i64) po], .agg [.int .i64 cx', .int .i64 cy', .int .i64 sd', .int .i64 w', .int .i64 h', .ro (.int .i64) pb', .ro (.int .i64) po']] : List AVal), Sm qSm) : ∃ N n, ∀ α (k : AOut → Option α), evFn real tab ((twY fsIs spL).env real tab N n) N Tryz.f29 α [.agg [.int .i64 cx, .int .i64 cy, .int .i64 sd, .int .i64 w, .int .i64 h, .ro (.int .i64) pb, .ro (.int .i64) po], .agg [.int .i64 cx', .int .i64 cy', .int .i64 sd', .int .i64 w', .int .i64 h', .ro (.int .i64) pb', .ro (.int .i64) po']] k = k (b1 (sameB cx cy sd w h pb po cx' cy' sd' w' h' pb' po')) := by
  have sm : ∀ {j : Nat} {c : List AVal} {e : AVal}, AVal.agg c ∈ ([.agg [.int .i64 cx, .int .i64 cy, .int .i64 sd, .int .i64 w, .int .i64 h, .ro (.int .i64) pb, .ro (.int .i64) po], .agg [.int .i64 cx', .int .i64 cy', .int .i64 sd', .int .i64 w', .int .i64 h', .ro (.int .i64) pb', .ro (.int .i64) po']] : List AVal) → c[j]? = some e → Sm e := fun h1 h2 => (hs _ h1).at h2
  have l1 : pb.length ≤ maxLen := (sm (j := 5) (List.mem_cons_self ..) rfl).len
  have l2 : po.length ≤ maxLen := (sm (j := 6) (List.mem_cons_self ..) rfl).len
  refine ⟨pb.length + po.length + 1, 8, fun α k => (isame_text (pb.length + po.length + 1) 0 α cx cy sd w h pb po cx' cy' sd' w' h' pb' po' k).trans ?_⟩
  unfold sameB
  cases cx == cx'
  · rfl
  cases cy == cy'
  · rfl
  simp only [bne]
  cases sd == sd'
  · rfl
  cases w == w'
  · rfl
  cases h == h'
  · rfl
  by_cases n1 : pb.length = pb'.length
  · by_cases n2 : po.length = po'.length
    · rw [show ((pb.length : Int) == (pb'.length : Int)) = true by simp; omega, show ((po.length : Int) == (po'.length : Int)) = true by simp; omega]
      simp only [Bool.not_true, Bool.and_self, Bool.true_and, cond_false]
      rw [cmp_loop 2 po po' _ _ n2 l2 (by omega), cmp_loop 0 pb pb' _ _ n1 l1 (by omega)]
      cases BEq.beq (α := List Int) pb pb' <;> cases BEq.beq (α := List Int) po po' <;> rfl
    · rw [show ((pb.length : Int) == (pb'.length : Int)) = true by simp; omega, show ((po.length : Int) == (po'.length : Int)) = false by simp; omega, len_ne n2, Bool.and_false]
      rfl
  · rw [show ((pb.length : Int) == (pb'.length : Int)) = false by simp; omega, len_ne n1]
    rfl
--CON isame
noncomputable def isameS : Fsp := fun _ args k => match args with
  | [.agg [.int .i64 cx, .int .i64 cy, .int .i64 sd, .int .i64 w, .int .i64 h, .ro (.int .i64) pb, .ro (.int .i64) po], .agg [.int .i64 cx', .int .i64 cy', .int .i64 sd', .int .i64 w', .int .i64 h', .ro (.int .i64) pb', .ro (.int .i64) po']] => k (b1 (sameB cx cy sd w h pb po cx' cy' sd' w' h' pb' po'))
  | _ => none
theorem isameS_ok : FspOk Tryz.prog 29 isameS := tower_Y fsIs_ok spL_ok ⟨Tryz.func29, fun _ _ => by kernel_rfl⟩ (by intro α args k; unfold isameS; split <;> rfl) fun args out hSm hEq => by
  unfold isameS at hEq
  split at hEq
  · rename_i cx cy sd w h pb po cx' cy' sd' w' h' pb' po'
    obtain ⟨N, n, e⟩ := isame_fin cx cy sd w h pb po cx' cy' sd' w' h' pb' po' hSm
    exact ⟨N, n, (e AOut some).trans hEq⟩
  · cases hEq
--END
--FS fsIr | fsIs | isame
noncomputable def fsIr : FuncId → Option Fsp := fun g =>
  if g = 29 then some isameS else
  fsIs g
theorem fsIr_ok : FsOk fsIr :=
  fs_cons isameS_ok <|
  fsIs_ok
--END
end Go.Proofs.YtbcjhjidhhecaaaGreat

/- Parts of numbers: how they compare; plain facts. -/
namespace Go.Proofs.YtbcjhjidhhecaaaGreat

theorem vl_split : ∀ (l : List Int) (i : Nat), i ≤ l.length → vl l = vl (l.take i) + 32768 ^ i * vl (l.drop i)
  | l, 0, _ => by simp [vl]
  | [], i + 1, h => by simp at h
  | x :: r, i + 1, h => by
    have ih := vl_split r i (by simpa using h)
    simp only [List.take_succ_cons, List.drop_succ_cons, vl, Int.pow_succ]
    rw [ih, Int.mul_add, Int.mul_comm (32768 ^ i) 32768, Int.mul_assoc]
    omega
theorem low_take {l : List Int} (h : low15 l) (i : Nat) : low15 (l.take i) := fun x hx => h x (List.mem_of_mem_take hx)
theorem low_drop {l : List Int} (h : low15 l) (i : Nat) : low15 (l.drop i) := fun x hx => h x (List.mem_of_mem_drop hx)
theorem dg_ge : ∀ n, 0 ≤ n → n ≠ 0 → 32768 ^ ((dg n).length - 1) ≤ n := dg_ind (fun h => absurd rfl h) fun n h ih _ => by
  rw [dg_pos h]
  simp only [List.length_cons, Nat.add_sub_cancel]
  by_cases hz : n / 32768 = 0
  · rw [hz, dg_zero]; simp; omega
  · have h1 := ih hz
    have hne : dg (n / 32768) ≠ [] := fun e => hz ((dg_nil (by omega)).1 e)
    obtain ⟨m, hm⟩ : ∃ m, (dg (n / 32768)).length = m + 1 := ⟨(dg (n / 32768)).length - 1, by have := List.length_pos_iff.2 hne; omega⟩
    rw [hm] at h1 ⊢
    simp only [Nat.add_sub_cancel] at h1
    rw [Int.pow_succ]
    omega
theorem dg_lt (n : Int) (h : 0 ≤ n) : n < 32768 ^ (dg n).length := by
  have := vl_lt (low_dg n h)
  rw [vl_dg n h] at this
  exact this
theorem pow_mono {i j : Nat} (h : i ≤ j) : (32768 : Int) ^ i ≤ 32768 ^ j := by
  obtain ⟨k, rfl⟩ : ∃ k, j = i + k := ⟨j - i, by omega⟩
  rw [Int.pow_add]
  have h1 := pow15 i
  have h2 := pow15 k
  have := Int.mul_le_mul_of_nonneg_left (show 1 ≤ (32768 : Int) ^ k by omega) (Int.le_of_lt h1)
  omega
theorem dg_len_lt {a b : Int} (ha : 0 ≤ a) (hb : 0 ≤ b) (h : (dg a).length < (dg b).length) : a < b := by
  have h1 := dg_lt a ha
  have hz : b ≠ 0 := fun e => by subst e; simp [dg_zero] at h
  have h2 := dg_ge b hb hz
  have := pow_mono (show (dg a).length ≤ (dg b).length - 1 by omega)
  omega
/-- The first part from above that differs. -/
theorem dg_top {a b : Int} (ha : 0 ≤ a) (hb : 0 ≤ b) {i : Nat} (hia : i < (dg a).length) (hib : i < (dg b).length) (he : (dg a).drop (i + 1) = (dg b).drop (i + 1)) (h : (dg a).getD i 0 < (dg b).getD i 0) : a < b := by
  have s1 := vl_split (dg a) (i + 1) (by omega)
  have s2 := vl_split (dg b) (i + 1) (by omega)
  rw [vl_dg a ha] at s1
  rw [vl_dg b hb, ← he] at s2
  rw [vl_take _ _ hia] at s1
  rw [vl_take _ _ hib] at s2
  have t1 := vl_lt (low_take (low_dg a ha) i)
  have t2 := vl_nn (low_take (low_dg b hb) i)
  rw [List.length_take, Nat.min_eq_left (by omega)] at t1
  have := Int.mul_le_mul_of_nonneg_right (show (dg a).getD i 0 + 1 ≤ (dg b).getD i 0 by omega) (Int.le_of_lt (pow15 i))
  rw [Int.add_mul] at this
  omega
theorem dg_eq {a b : Int} (ha : 0 ≤ a) (hb : 0 ≤ b) (h : dg a = dg b) : a = b := dg_inj ha hb h
theorem trim_dg {l : List Int} (h : low15 l) : trimL l = dg (vl l) := (dg_vl h).symm
theorem vl_app (l m : List Int) : vl (l ++ m) = vl l + 32768 ^ l.length * vl m := by
  have := vl_split (l ++ m) l.length (by simp)
  rw [List.take_left', List.drop_left'] at this
  · exact this
  · rfl
  · rfl
/-- A number with one more part at its top. -/
theorem dg_snoc {l : List Int} {x : Int} (hl : low15 l) (hx : 0 < x ∧ x < 32768) : dg (vl l + x * 32768 ^ l.length) = l ++ [x] := by
  rw [← vl_append]
  have h2 : low15 (l ++ [x]) := low_app hl ⟨by omega, hx.2⟩
  rw [dg_vl h2]
  clear hl h2
  induction l with
  | nil => simp [trimL]; omega
  | cons a r ih =>
    simp only [List.cons_append, trimL, ih]
    split
    · rename_i e; exact absurd e (by simp)
    · rfl
end Go.Proofs.YtbcjhjidhhecaaaGreat

/- Parts of numbers: products, sums, differences; plain facts about the reference's loops. -/
namespace Go.Proofs.YtbcjhjidhhecaaaGreat

/-! Products. -/
def inC (x : Int) (b : List Int) (i : Nat) (s : Int × List Int) (k : Nat) : Int := s.1 + s.2.getD (i + k) 0 + x * b.getD k 0
def inSt (x : Int) (b : List Int) (i : Nat) (out : List Int) : Nat → Int × List Int
  | 0 => (0, out)
  | k + 1 => (inC x b i (inSt x b i out k) k / 32768, (inSt x b i out k).2.set (i + k) (inC x b i (inSt x b i out k) k % 32768))

structure InIs (x : Int) (b : List Int) (i : Nat) (out : List Int) (k : Nat) : Prop where
  len : (inSt x b i out k).2.length = out.length
  low : low15 (inSt x b i out k).2
  c : 0 ≤ (inSt x b i out k).1 ∧ (inSt x b i out k).1 < 32768
  vl : vl (inSt x b i out k).2 + (inSt x b i out k).1 * 32768 ^ (i + k) = vl out + x * vl (b.take k) * 32768 ^ i
  rest : ∀ j, i + k ≤ j → (inSt x b i out k).2.getD j 0 = out.getD j 0
theorem inC_in {x : Int} {b : List Int} {i : Nat} {out : List Int} (hx : 0 ≤ x ∧ x < 32768) (hb : low15 b) {k : Nat} (h : InIs x b i out k) : 0 ≤ inC x b i (inSt x b i out k) k ∧ inC x b i (inSt x b i out k) k < 1073741824 := by
  have h1 := h.c
  have h2 := low_get h.low (i + k)
  have h3 := low_get hb k
  have h4 : 0 ≤ x * b.getD k 0 := Int.mul_nonneg hx.1 h3.1
  have h5 : x * b.getD k 0 ≤ 32767 * 32767 := Int.mul_le_mul (by omega) (by omega) h3.1 (by omega)
  unfold inC
  omega
theorem in_is {x : Int} {b : List Int} {i : Nat} {out : List Int} (hx : 0 ≤ x ∧ x < 32768) (hb : low15 b) (ho : low15 out) (hl : i + b.length < out.length) : ∀ k, k ≤ b.length → InIs x b i out k
  | 0, _ => ⟨rfl, ho, by simp [inSt], by simp [inSt, vl], fun j _ => rfl⟩
  | k + 1, hk => by
    have h := in_is hx hb ho hl k (by omega)
    have hc := inC_in hx hb h
    have hlen := h.len
    refine ⟨by simp [inSt, hlen], ?_, ?_, ?_, fun j hj => ?_⟩
    · exact low_set h.low (by omega)
    · simp only [inSt]; omega
    · simp only [inSt]
      rw [vl_set _ _ _ (by omega), vl_take _ _ (by omega)]
      have hv := h.vl
      have e : inC x b i (inSt x b i out k) k % 32768 = inC x b i (inSt x b i out k) k - 32768 * (inC x b i (inSt x b i out k) k / 32768) := by omega
      rw [e]
      generalize hq : inC x b i (inSt x b i out k) k / 32768 = q
      have ec : inC x b i (inSt x b i out k) k = (inSt x b i out k).1 + (inSt x b i out k).2.getD (i + k) 0 + x * b.getD k 0 := rfl
      rw [ec]
      have p1 : (32768 : Int) ^ (i + (k + 1)) = 32768 ^ (i + k) * 32768 := by rw [← Nat.add_assoc, Int.pow_succ]
      have p2 : (32768 : Int) ^ (i + k) = 32768 ^ k * 32768 ^ i := by rw [Nat.add_comm, Int.pow_add]
      rw [p1]
      have e3 : x * (vl (b.take k) + b.getD k 0 * 32768 ^ k) * 32768 ^ i = x * vl (b.take k) * 32768 ^ i + x * b.getD k 0 * 32768 ^ (i + k) := by
        rw [p2, Int.mul_add, Int.add_mul]; simp only [Int.mul_assoc]
      rw [e3, ← Int.add_assoc, ← hv]
      generalize (32768 : Int) ^ (i + k) = P
      generalize (inSt x b i out k).2.getD (i + k) 0 = o
      generalize x * b.getD k 0 = m
      generalize (inSt x b i out k).1 = c
      have e4 : (c + o + m - 32768 * q - o) * P + q * (P * 32768) = c * P + m * P := by
        have : c + o + m - 32768 * q - o = c + m - 32768 * q := by omega
        rw [this, Int.sub_mul, Int.add_mul, Int.mul_comm P 32768, ← Int.mul_assoc q, Int.mul_comm q 32768]
        omega
      rw [Int.add_assoc, e4]; omega
    · simp only [inSt]
      rw [List.getD_eq_getElem?_getD, List.getElem?_set_ne (by omega), ← List.getD_eq_getElem?_getD]
      exact h.rest j (by omega)

def outSt (a b : List Int) : Nat → List Int
  | 0 => List.replicate (a.length + b.length) 0
  | i + 1 => (inSt (a.getD i 0) b i (outSt a b i) b.length).2.set (i + b.length) (inSt (a.getD i 0) b i (outSt a b i) b.length).1
structure OutIs (a b : List Int) (i : Nat) : Prop where
  len : (outSt a b i).length = a.length + b.length
  low : low15 (outSt a b i)
  vl : vl (outSt a b i) = vl (a.take i) * vl b
  rest : ∀ j, i + b.length ≤ j → (outSt a b i).getD j 0 = 0
theorem out_is {a b : List Int} (ha : low15 a) (hb : low15 b) : ∀ i, i ≤ a.length → OutIs a b i
  | 0, _ => ⟨by simp [outSt], fun x hx => by simp [outSt] at hx; omega, by simp [outSt, vl_zeros, vl], fun j hj => by simp [outSt, List.getD_eq_getElem?_getD, List.getElem?_replicate]; split <;> rfl⟩
  | i + 1, hi => by
    have h := out_is ha hb i (by omega)
    have hlen := h.len
    have k := in_is (low_get ha i) hb h.low (i := i) (by omega) b.length (Nat.le_refl _)
    have hr := k.rest (i + b.length) (Nat.le_refl _)
    rw [h.rest _ (Nat.le_refl _)] at hr
    have kl := k.len
    refine ⟨by simp only [outSt, List.length_set, kl, hlen], low_set k.low k.c, ?_, fun j hj => ?_⟩
    · simp only [outSt]
      rw [vl_set _ _ _ (by omega), hr, Int.sub_zero, k.vl, List.take_length, h.vl, vl_take _ _ (by omega), Int.add_mul]
      rw [Int.mul_assoc (a.getD i 0) (32768 ^ i), Int.mul_comm (32768 ^ i) (vl b), Int.mul_assoc]
    · simp only [outSt]
      rw [List.getD_eq_getElem?_getD, List.getElem?_set_ne (by omega), ← List.getD_eq_getElem?_getD, k.rest j (by omega)]
      exact h.rest j (by omega)
theorem out_dg {a b : List Int} (ha : isDg a = true) (hb : isDg b = true) : trimL (outSt a b a.length) = dg (vl a * vl b) := by
  rw [isDg_iff] at ha hb
  have la : low15 a := by rw [ha.1]; exact low_dg _ ha.2
  have lb : low15 b := by rw [hb.1]; exact low_dg _ hb.2
  have h := out_is la lb a.length (Nat.le_refl _)
  rw [trim_dg h.low, h.vl, List.take_length]

/-! Sums. -/
def plC (a b : List Int) (s : Int × List Int) (i : Nat) : Int := s.1 + a.getD i 0 + b.getD i 0
def plSt (a b : List Int) : Nat → Int × List Int
  | 0 => (0, [])
  | i + 1 => (plC a b (plSt a b i) i / 32768, (plSt a b i).2 ++ [plC a b (plSt a b i) i % 32768])
structure PlIs (a b : List Int) (i : Nat) : Prop where
  len : (plSt a b i).2.length = i
  low : low15 (plSt a b i).2
  c : 0 ≤ (plSt a b i).1 ∧ (plSt a b i).1 ≤ 1
  vl : vl (plSt a b i).2 + (plSt a b i).1 * 32768 ^ i = vl (a.take i) + vl (b.take i)
theorem vl_take' (l : List Int) (i : Nat) : vl (l.take (i + 1)) = vl (l.take i) + l.getD i 0 * 32768 ^ i := by
  rcases Nat.lt_or_ge i l.length with h | h
  · exact vl_take l i h
  · rw [List.take_of_length_le (by omega), List.take_of_length_le h, List.getD_eq_getElem?_getD, List.getElem?_eq_none h]; simp
theorem pl_is {a b : List Int} (ha : low15 a) (hb : low15 b) : ∀ i, PlIs a b i
  | 0 => ⟨rfl, fun x hx => by simp [plSt] at hx, by simp [plSt], by simp [plSt, vl]⟩
  | i + 1 => by
    have h := pl_is ha hb i
    have h1 := h.c
    have h2 := low_get ha i
    have h3 := low_get hb i
    have hl := h.len
    have hc : 0 ≤ plC a b (plSt a b i) i ∧ plC a b (plSt a b i) i < 65536 := by unfold plC; omega
    refine ⟨by simp [plSt, hl], low_app h.low (by omega), by simp only [plSt]; omega, ?_⟩
    simp only [plSt]
    rw [vl_append, hl, vl_take', vl_take', Int.pow_succ]
    have hv := h.vl
    have e : plC a b (plSt a b i) i % 32768 = plC a b (plSt a b i) i - 32768 * (plC a b (plSt a b i) i / 32768) := by omega
    rw [e]
    have ec : plC a b (plSt a b i) i = (plSt a b i).1 + a.getD i 0 + b.getD i 0 := rfl
    generalize plC a b (plSt a b i) i / 32768 = q
    rw [ec]
    generalize (32768 : Int) ^ i = P at *
    generalize (plSt a b i).1 = c at *
    generalize a.getD i 0 = x
    generalize b.getD i 0 = y
    rw [Int.sub_mul, Int.add_mul, Int.add_mul, Int.mul_comm P 32768, ← Int.mul_assoc q, Int.mul_comm q 32768]
    omega

/-! Differences. -/
def mnD (a b : List Int) (s : Int × List Int) (i : Nat) : Int := a.getD i 0 - s.1 - b.getD i 0
def mnSt (a b : List Int) : Nat → Int × List Int
  | 0 => (0, [])
  | i + 1 => (if mnD a b (mnSt a b i) i < 0 then 1 else 0, (mnSt a b i).2 ++ [if mnD a b (mnSt a b i) i < 0 then mnD a b (mnSt a b i) i + 32768 else mnD a b (mnSt a b i) i])
structure MnIs (a b : List Int) (i : Nat) : Prop where
  len : (mnSt a b i).2.length = i
  low : low15 (mnSt a b i).2
  c : 0 ≤ (mnSt a b i).1 ∧ (mnSt a b i).1 ≤ 1
  vl : vl (mnSt a b i).2 - (mnSt a b i).1 * 32768 ^ i = vl (a.take i) - vl (b.take i)
theorem mn_is {a b : List Int} (ha : low15 a) (hb : low15 b) : ∀ i, MnIs a b i
  | 0 => ⟨rfl, fun x hx => by simp [mnSt] at hx, by simp [mnSt], by simp [mnSt, vl]⟩
  | i + 1 => by
    have h := mn_is ha hb i
    have h1 := h.c
    have h2 := low_get ha i
    have h3 := low_get hb i
    have hl := h.len
    have hd : -32768 ≤ mnD a b (mnSt a b i) i ∧ mnD a b (mnSt a b i) i < 32768 := by unfold mnD; omega
    have hv := h.vl
    refine ⟨by simp [mnSt, hl], low_app h.low (by split <;> omega), by simp only [mnSt]; split <;> omega, ?_⟩
    simp only [mnSt]
    rw [vl_append, hl, vl_take', vl_take', Int.pow_succ]
    have ec : mnD a b (mnSt a b i) i = a.getD i 0 - (mnSt a b i).1 - b.getD i 0 := rfl
    generalize mnD a b (mnSt a b i) i = D at *
    generalize (32768 : Int) ^ i = P at *
    generalize (mnSt a b i).1 = c at *
    generalize a.getD i 0 = x at *
    generalize b.getD i 0 = y at *
    have e : D * P = x * P - c * P - y * P := by rw [ec, Int.sub_mul, Int.sub_mul]
    split
    · rw [Int.add_mul, Int.one_mul, Int.mul_comm P]; omega
    · omega
theorem mn_dg {a b : Int} (hb : 0 ≤ b) (h : b ≤ a) : trimL (mnSt (dg a) (dg b) (dg a).length).2 = dg (a - b) := by
  have ha : 0 ≤ a := by omega
  have k := mn_is (low_dg a ha) (low_dg b hb) (dg a).length
  rw [trim_dg k.low]
  have hv := k.vl
  have hlen : (dg b).length ≤ (dg a).length := by
    rcases Nat.lt_or_ge (dg a).length (dg b).length with hlt | hge
    · have := dg_len_lt ha hb hlt; omega
    · exact hge
  rw [List.take_length, List.take_of_length_le hlen, vl_dg a ha, vl_dg b hb] at hv
  have hlt := vl_lt k.low
  rw [k.len] at hlt
  have hp := pow15 (dg a).length
  have hc := k.c
  have : (mnSt (dg a) (dg b) (dg a).length).1 = 0 := by
    rcases Int.lt_or_le 0 (mnSt (dg a) (dg b) (dg a).length).1 with h1 | h1
    · have e1 : (mnSt (dg a) (dg b) (dg a).length).1 = 1 := by omega
      rw [e1] at hv; omega
    · omega
  rw [this] at hv
  congr 1
  omega
end Go.Proofs.YtbcjhjidhhecaaaGreat

/- Parts of numbers that are not too great: what contracts ask. -/
namespace Go.Proofs.YtbcjhjidhhecaaaGreat

/-- Is it the parts of a number below 2^180? -/
def isD (l : List Int) : Bool := isDg l && decide (vl l < 1532495540865888858358347027150309183618739122183602176)
theorem isD_iff {l : List Int} : isD l = true ↔ l = dg (vl l) ∧ 0 ≤ vl l ∧ vl l < 1532495540865888858358347027150309183618739122183602176 := by
  simp only [isD, Bool.and_eq_true, isDg_iff, decide_eq_true_eq, and_assoc]
theorem isD_dg {n : Int} (h : 0 ≤ n ∧ n < 1532495540865888858358347027150309183618739122183602176) : isD (dg n) = true := by
  rw [isD_iff, vl_dg n h.1]; exact ⟨rfl, h⟩
theorem dg_len {n : Int} (h : 0 ≤ n ∧ n < 1532495540865888858358347027150309183618739122183602176) : (dg n).length ≤ 12 := by
  rcases Nat.lt_or_ge (dg n).length 13 with h1 | h1
  · omega
  · have hz : n ≠ 0 := fun e => by subst e; simp [dg_zero] at h1
    have h2 := dg_ge n h.1 hz
    have h3 := pow_mono (show 12 ≤ (dg n).length - 1 by omega)
    have h4 : (32768 : Int) ^ 12 = 1532495540865888858358347027150309183618739122183602176 := by decide
    omega
theorem isD_len {l : List Int} (h : isD l = true) : l.length ≤ 12 := by
  rw [isD_iff] at h
  rw [h.1]; exact dg_len h.2
theorem isD_low {l : List Int} (h : isD l = true) : low15 l := by
  rw [isD_iff] at h
  rw [h.1]; exact low_dg _ h.2.1
theorem isD_isDg {l : List Int} (h : isD l = true) : isDg l = true := by
  rw [isD_iff] at h; rw [isDg_iff]; exact ⟨h.1, h.2.1⟩
theorem trimL_app0 (l : List Int) : trimL (l ++ [0]) = trimL l := by
  induction l with
  | nil => rfl
  | cons a r ih => simp only [List.cons_append, trimL, ih]
theorem trimL_last (l : List Int) (x : Int) (h : x ≠ 0) : trimL (l ++ [x]) = l ++ [x] := by
  induction l with
  | nil => simp [trimL, h]
  | cons a r ih =>
    simp only [List.cons_append, trimL, ih]
    split
    · rename_i e; exact absurd e (by simp)
    · rfl
theorem low_trim {l : List Int} (h : low15 l) : low15 (trimL l) := by rw [trim_dg h]; exact low_dg _ (vl_nn h)
theorem vl_trim {l : List Int} (h : low15 l) : vl (trimL l) = vl l := by rw [trim_dg h]; exact vl_dg _ (vl_nn h)
end Go.Proofs.YtbcjhjidhhecaaaGreat
