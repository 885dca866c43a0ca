/- Package skill: the least and the greatest of values, mean, Mean. -/
import Derived.Test.YtleceelemogbcaaSkD
import Derived.Lib.MinMax
namespace Go.Proofs.Ytleceelemogbcaa
open Go.RowKit

/-- The least of the first ones. -/
def minTo (xs : List Int) : Nat → Int
  | 0 => nth xs 0
  | k + 1 => min (minTo xs k) (nth xs (k + 1))

theorem minTo_bd {xs : List Int} {lo hi : Int} {n : Nat} (h : ∀ j, j < n → lo ≤ nth xs j ∧ nth xs j ≤ hi) : ∀ k, k < n → lo ≤ minTo xs k ∧ minTo xs k ≤ hi
  | 0, hk => h 0 hk
  | k + 1, hk => by
    have a := minTo_bd h k (by omega)
    have b := h (k + 1) hk
    simp only [minTo]
    omega

set_option maxHeartbeats 1000000 in
theorem minFix_c (xs : List Int) (v : Value) (w : World) (hv : Ints w v xs) (h0 : 0 < xs.length) :
    Calls Try.prog 44 #[v] w fun e w' => e = .returned (.int .i64 (minTo xs (xs.length - 1))) ∧ w = w' := by
  rcases hv with ⟨q, cap, rfl, rfl⟩ | ⟨b, off, cap, rfl, -, h1, h2, h3⟩
  · simp at h0
  · have H2 : Hid (∀ i, i < xs.length → w.cell? ⟨b, off + i, none⟩ = some (.int .i64 (nth xs i))) := h2
    have hc0 := h2 0 h0
    rw [Nat.add_zero] at hc0
    clear h2 h3
    generalize xs.length = n at *
    obtain ⟨m, rfl⟩ : ∃ m, n = m + 1 := ⟨n - 1, by omega⟩
    rw [Nat.add_sub_cancel]
    have HM0 : Hid (minTo xs 0 = nth xs 0) := rfl
    generalize nth xs 0 = x0 at *
    go_enter Try.func44, Try.ntmps44
    go_wp2_with fail
    go_loop [3, 4] (fun s i => ∃ k : Nat, k ≤ m ∧ i = .int .i64 (k + 1 : Nat) ∧ s = .int .i64 (minTo xs k)) (fun _ i => m + 1 - (intOf i).toNat)
    case atStart => exact ⟨0, Nat.zero_le _, rfl, by rw [HM0.out]⟩
    case round =>
      obtain ⟨k, hk, rfl, rfl⟩ := hrel
      by_cases hlt : k < m
      · have hc := H2.out (k + 1) (by omega)
        have HE : Hid (minTo xs (k + 1) = min (minTo xs k) (nth xs (k + 1))) := rfl
        generalize minTo xs k = s at *
        generalize nth xs (k + 1) = x at *
        go_wp2_with fail
        go_round
        case rel => exact ⟨k + 1, by omega, by go_num, by rw [HE.out]⟩
        case measure => simp [intOf]; omega
      · obtain rfl : k = m := by omega
        go_wp2_with fail
        go_ret
        exact ⟨rfl, rfl⟩

/-- The greatest of the first ones. -/
def maxTo (xs : List Int) : Nat → Int
  | 0 => nth xs 0
  | k + 1 => max (maxTo xs k) (nth xs (k + 1))

theorem maxTo_bd {xs : List Int} {lo hi : Int} {n : Nat} (h : ∀ j, j < n → lo ≤ nth xs j ∧ nth xs j ≤ hi) : ∀ k, k < n → lo ≤ maxTo xs k ∧ maxTo xs k ≤ hi
  | 0, hk => h 0 hk
  | k + 1, hk => by
    have a := maxTo_bd h k (by omega)
    have b := h (k + 1) hk
    simp only [maxTo]
    omega

set_option maxHeartbeats 1000000 in
theorem maxFix_c (xs : List Int) (v : Value) (w : World) (hv : Ints w v xs) (h0 : 0 < xs.length) :
    Calls Try.prog 45 #[v] w fun e w' => e = .returned (.int .i64 (maxTo xs (xs.length - 1))) ∧ w = w' := by
  rcases hv with ⟨q, cap, rfl, rfl⟩ | ⟨b, off, cap, rfl, -, h1, h2, h3⟩
  · simp at h0
  · have H2 : Hid (∀ i, i < xs.length → w.cell? ⟨b, off + i, none⟩ = some (.int .i64 (nth xs i))) := h2
    have hc0 := h2 0 h0
    rw [Nat.add_zero] at hc0
    clear h2 h3
    generalize xs.length = n at *
    obtain ⟨m, rfl⟩ : ∃ m, n = m + 1 := ⟨n - 1, by omega⟩
    rw [Nat.add_sub_cancel]
    have HM0 : Hid (maxTo xs 0 = nth xs 0) := rfl
    generalize nth xs 0 = x0 at *
    go_enter Try.func45, Try.ntmps45
    go_wp2_with fail
    go_loop [3, 4] (fun s i => ∃ k : Nat, k ≤ m ∧ i = .int .i64 (k + 1 : Nat) ∧ s = .int .i64 (maxTo xs k)) (fun _ i => m + 1 - (intOf i).toNat)
    case atStart => exact ⟨0, Nat.zero_le _, rfl, by rw [HM0.out]⟩
    case round =>
      obtain ⟨k, hk, rfl, rfl⟩ := hrel
      by_cases hlt : k < m
      · have hc := H2.out (k + 1) (by omega)
        have HE : Hid (maxTo xs (k + 1) = max (maxTo xs k) (nth xs (k + 1))) := rfl
        generalize maxTo xs k = s at *
        generalize nth xs (k + 1) = x at *
        go_wp2_with fail
        go_round
        case rel => exact ⟨k + 1, by omega, by go_num, by rw [HE.out]⟩
        case measure => simp [intOf]; omega
      · obtain rfl : k = m := by omega
        go_wp2_with fail
        go_ret
        exact ⟨rfl, rfl⟩

theorem mean1_c (x : Int) (w : World) : Calls Try.prog 41 #[.int .i64 x] w fun e w' => e = .returned (.bool (!wB x (-68719476736) 68719476736)) ∧ w = w' := by
  cases h : wB x (-68719476736) 68719476736
  all_goals
    have H : Hid (wB x (-68719476736) 68719476736 = _) := h
    clear h
    go_enter Try.func41, Try.ntmps41
    go_wp2_with (go_at_call 36; refine (withinFix_c _ _ _ _).mono ?_; rintro e w' ⟨rfl, rfl⟩; rw [H.out])
    go_ret
    exact ⟨rfl, rfl⟩

theorem mean1_pure (xs : List Int) : PureFn 41 #[] xs (fun x => !wB x (-68719476736) 68719476736) :=
  ⟨enters_of Try.func41 (by kernel_rfl) rfl, fun x _ w => mean1_c x w⟩

/-- The sum of values, each as often as its outcome was. -/
def wsum (cs vs : List Int) (k : Nat) : Int := sumTo (fun i => nth cs i * nth vs i) k

theorem mul_bd {n x N X : Int} (h0 : 0 ≤ n) (h1 : n ≤ N) (h2 : -X ≤ x) (h3 : x ≤ X) : -(N * X) ≤ n * x ∧ n * x ≤ N * X := by
  have hX : 0 ≤ X := by omega
  have a : n * x ≤ N * X := Int.le_trans (Int.mul_le_mul_of_nonneg_left h3 h0) (Int.mul_le_mul_of_nonneg_right h1 hX)
  have b : n * (-x) ≤ N * X := Int.le_trans (Int.mul_le_mul_of_nonneg_left (show -x ≤ X by omega) h0) (Int.mul_le_mul_of_nonneg_right h1 hX)
  rw [Int.mul_neg] at b
  omega

theorem sumTo_abs {f : Nat → Int} {M : Int} {n : Nat} (h : ∀ j, j < n → -M ≤ f j ∧ f j ≤ M) : ∀ k, k ≤ n → -(M * k) ≤ sumTo f k ∧ sumTo f k ≤ M * k
  | 0, _ => by simp [sumTo]
  | k + 1, hk => by
    obtain ⟨a, b⟩ := sumTo_abs h k (by omega)
    obtain ⟨c, d⟩ := h k (by omega)
    have e : M * ((k + 1 : Nat) : Int) = M * k + M := by rw [Int.natCast_add, Int.mul_add]; simp
    rw [e]
    simp only [sumTo]
    omega

/-- A product that fits. -/
theorem prod_fits {n x : Int} (h0 : 0 ≤ n) (h1 : n ≤ 1000000) (h2 : -68719476736 ≤ x) (h3 : x ≤ 68719476736) :
    ∃ p, IntKind.i64.wrap (n * x) = p ∧ -68719476736000000 ≤ p ∧ p ≤ 68719476736000000 ∧ Hid (n * x = p) := by
  obtain ⟨a, b⟩ := mul_bd h0 h1 h2 h3
  refine ⟨n * x, ?_, by omega, by omega, rfl⟩
  generalize n * x = k at *
  rw [IntKind.wrap_i64]
  omega

/-- The value with the doubt's, and all others. -/
def totalI (cs vs : List Int) (d x : Int) : Int := d * x + wsum cs vs cs.length

set_option maxHeartbeats 1000000 in
theorem meanf_c (cs vs : List Int) (d x how : Int) (K : FuncId) (v u : Value) (w : World) (hv : Ints w v cs) (hu : Ints w u vs) (hen : ∀ args w, (callFunc K args).run Try.prog w = .ok (.enter K args) w)
    (hK : Calls Try.prog K #[u] w fun e w' => e = .returned (.int .i64 x) ∧ w = w') (hc : countB cs = true) (hl : vs.length = cs.length) (hvs : ∀ j, j < vs.length → -68719476736 ≤ nth vs j ∧ nth vs j ≤ 68719476736)
    (hd1 : 1 ≤ d) (hd2 : d ≤ 1000) (hx : -68719476736 ≤ x ∧ x ≤ 68719476736) (hh : how = 1 ∨ how = 2) :
    Calls Try.prog 43 #[v, u, .int .i64 d, .func (.func K) #[] #[], .int .i64 how] w fun e w' => e = .returned (.int .i64 (rndQ how (totalI cs vs d x) (sumI cs + d))) ∧ Below w.heap.size w w' := by
  have HV : Hid (Ints w v cs) := hv
  obtain ⟨⟨n1, n2⟩, -⟩ := (countB_iff cs).1 hc
  obtain ⟨hs1, hs2⟩ := sum_bd n2 (countB_bd hc)
  have HC : Hid (∀ j, j < cs.length → 0 ≤ nth cs j ∧ nth cs j ≤ 1000000) := countB_bd hc
  have HSC : Hid (Calls Try.prog 40 #[v] w fun e w' => e = .returned (.int .i64 (sumI cs)) ∧ w = w') := sum_c cs v w hv n2 (countB_bd hc)
  have HB : Hid (∀ k, k ≤ cs.length → -(68719476736000000 * (k : Int)) ≤ wsum cs vs k ∧ wsum cs vs k ≤ 68719476736000000 * k) := by
    refine sumTo_abs (n := cs.length) fun j hj => ?_
    obtain ⟨a, b⟩ := countB_bd hc j hj
    obtain ⟨e, f⟩ := hvs j (by omega)
    have := mul_bd a b e f
    omega
  have HVS : Hid (∀ j, j < vs.length → -68719476736 ≤ nth vs j ∧ nth vs j ≤ 68719476736) := hvs
  obtain ⟨dx, ew, e1, e2, HDX⟩ := prod_fits (show 0 ≤ d by omega) (show d ≤ 1000000 by omega) hx.1 hx.2
  have HSH : Hid (∀ a b, 0 < b → b ≤ 2147483648 → -4611686018427387904 ≤ a → a ≤ 4611686018427387904 → ∀ w, Calls Try.prog 65 #[.int .i64 a, .int .i64 b, .int .i64 how] w fun e w' => e = .returned (.tuple #[.int .i64 (rndQ how a b), .int .i64 0]) ∧ Below w.heap.size w w') := fun a b h1 h2 h3 h4 w => share_c a b how w hh h1 h2 h3 h4
  have HKK : Hid (Calls Try.prog K #[u] w fun e w' => e = .returned (.int .i64 x) ∧ w = w') := hK
  have hcall : ∀ w, (callFunc K #[u]).run Try.prog w = .ok (.enter K #[u]) w := fun w => hen _ w
  have HT : Hid (totalI cs vs d x = dx + wsum cs vs cs.length) := by show _ = _; unfold totalI; rw [HDX.out]
  clear hc hh hvs hK hen hx HDX
  rcases hv with ⟨_, _, _, rfl⟩ | ⟨b, off, cap, rfl, g0, g1, g2, g3⟩
  · simp at n1
  rcases hu with ⟨_, _, _, rfl⟩ | ⟨b', off', cap', rfl, k0, k1, k2, k3⟩
  · simp at hl; omega
  have G2 : Hid (∀ i, i < cs.length → w.cell? ⟨b, off + i, none⟩ = some (.int .i64 (nth cs i))) := g2
  have K2 : Hid (∀ i, i < vs.length → w.cell? ⟨b', off' + i, none⟩ = some (.int .i64 (nth vs i))) := k2
  clear g2 g3 k2 k3
  rw [hl] at *
  clear hl
  generalize cs.length = n at *
  generalize sumI cs = S at *
  have hsd : S + d ≤ 2147483648 := by omega
  have hsd0 : 0 < S + d := by omega
  go_enter Try.func43, Try.ntmps43
  go_wp2_with (go_at_fn K; refine HKK.out.mono ?_; rintro e w' ⟨rfl, rfl⟩)
  go_loop [11, 12, 13, 23] (fun s _ _ i => ∃ k : Nat, k ≤ n ∧ i = .int .i64 k ∧ s = .int .i64 (dx + wsum cs vs k)) (fun _ _ _ i => n - (intOf i).toNat)
  case atStart => exact ⟨0, Nat.zero_le _, rfl, by show _ = Value.int .i64 (dx + 0); rw [Int.add_zero]⟩
  case round =>
    obtain ⟨k, hk, rfl, rfl⟩ := hrel
    obtain ⟨b1, b2⟩ := HB.out k hk
    by_cases hlt : k < n
    · have hc := G2.out k hlt
      have hc2 := K2.out k hlt
      obtain ⟨z1, z2⟩ := HC.out k hlt
      obtain ⟨y1, y2⟩ := HVS.out k hlt
      obtain ⟨p, ep, p1, p2, HP⟩ := prod_fits z1 z2 y1 y2
      have HE : Hid (wsum cs vs (k + 1) = wsum cs vs k + p) := by show _ = _; rw [← HP.out]; rfl
      clear HP
      generalize wsum cs vs k = s at *
      generalize nth cs k = z at *
      generalize nth vs k = y at *
      go_wp2_with fail
      go_round
      case rel => exact ⟨k + 1, by omega, by go_num, by rw [HE.out, Int.add_assoc]⟩
      case measure => simp [intOf]; omega
    · obtain rfl : k = n := by omega
      generalize wsum cs vs k = s at *
      go_wp2_with (first
        | (go_at_call 40; refine HSC.out.mono ?_; rintro e w' ⟨rfl, rfl⟩)
        | (go_at_call 65; refine (HSH.out _ _ hsd0 hsd (by omega) (by omega) _).mono ?_; rintro e w1 ⟨rfl, hb⟩))
      go_ret
      exact ⟨ret_i64 (by rw [HT.out]), hb⟩

/-- Is what Mean is asked valid? -/
def mnOk (cs vs : List Int) (d : Int) : Bool := countB cs && (decide (vs.length = cs.length) && (!(vs.any fun x => !wB x (-68719476736) 68719476736) && wB d 1 1000))

theorem mnOk_vals {cs vs : List Int} {d : Int} (h : mnOk cs vs d = true) : countB cs = true ∧ vs.length = cs.length ∧ (∀ j, j < vs.length → -68719476736 ≤ nth vs j ∧ nth vs j ≤ 68719476736) ∧ 1 ≤ d ∧ d ≤ 1000 := by
  simp only [mnOk, Bool.and_eq_true, decide_eq_true_eq, Bool.not_eq_true', List.any_eq_false, wB_iff] at h
  obtain ⟨h1, h2, h3, h4⟩ := h
  refine ⟨h1, h2, fun j hj => ?_, h4.1, h4.2⟩
  have := h3 _ (getD_mem hj)
  rw [Bool.not_eq_false] at this
  exact (wB_iff _ _ _).1 this

/-- The bounds of a mean. -/
def mnLow (cs vs : List Int) (d : Int) : Int := rndQ 1 (totalI cs vs d (minTo vs (vs.length - 1))) (sumI cs + d)
def mnHigh (cs vs : List Int) (d : Int) : Int := rndQ 2 (totalI cs vs d (maxTo vs (vs.length - 1))) (sumI cs + d)

set_option maxHeartbeats 1000000 in
theorem mean_ok (cs vs : List Int) (d : Int) (v u : Value) (w : World) (hv : Ints w v cs) (hu : Ints w u vs) (h : mnOk cs vs d = true) :
    Calls Try.prog 14 #[v, u, .int .i64 d] w fun e w' => e = .returned (.tuple #[.int .i64 (mnLow cs vs d), .int .i64 (mnHigh cs vs d), .int .i64 0]) ∧ Below w.heap.size w w' := by
  obtain ⟨h1, h2, h3, h4, h5⟩ := mnOk_vals h
  have n1 : 0 < vs.length := by have := ((countB_iff cs).1 h1).1.1; omega
  have HL : Hid (∀ w, Ints w v cs → Ints w u vs → Calls Try.prog 43 #[v, u, .int .i64 d, .func (.func 44) #[] #[], .int .i64 1] w fun e w' => e = .returned (.int .i64 (mnLow cs vs d)) ∧ Below w.heap.size w w') :=
    fun w hv hu => meanf_c cs vs d _ 1 _ v u w hv hu (enters_of Try.func44 (by kernel_rfl) rfl) (minFix_c vs u w hu n1) h1 h2 h3 h4 h5 (minTo_bd h3 _ (by omega)) (.inl rfl)
  have HH : Hid (∀ w, Ints w v cs → Ints w u vs → Calls Try.prog 43 #[v, u, .int .i64 d, .func (.func 45) #[] #[], .int .i64 2] w fun e w' => e = .returned (.int .i64 (mnHigh cs vs d)) ∧ Below w.heap.size w w') :=
    fun w hv hu => meanf_c cs vs d _ 2 _ v u w hv hu (enters_of Try.func45 (by kernel_rfl) rfl) (maxFix_c vs u w hu n1) h1 h2 h3 h4 h5 (maxTo_bd h3 _ (by omega)) (.inr rfl)
  have HC : Hid (Calls Try.prog 38 #[v] w fun e w' => e = .returned (.bool true) ∧ w = w') := by have := counted_c cs v w hv; rw [h1] at this; exact this
  simp only [mnOk, Bool.and_eq_true, Bool.not_eq_true'] at h
  obtain ⟨-, -, h6, h7⟩ := h
  have HO : Hid (Calls Try.prog 42 #[u, .func (.func 41) #[] #[]] w fun e w' => e = .returned (.bool false) ∧ w = w') := by
    have := containsFuncFix_c 41 #[] vs _ u w (mean1_pure vs) hu
    rw [h6] at this; exact this
  have H7 : Hid (wB d 1 1000 = true) := h7
  have HV : Hid (Ints w v cs) := hv
  have HU : Hid (Ints w u vs) := hu
  obtain ⟨p, cap, rfl⟩ := hv.shape
  obtain ⟨p', cap', rfl⟩ := hu.shape
  have hbn : ((vs.length : Int) != (cs.length : Int)) = false := by rw [h2]; simp
  clear h1 h2 h3 h6 h7 hv hu
  go_enter Try.func14, Try.ntmps14
  go_wp2_with (first
    | (go_at_call 38; refine HC.out.mono ?_; rintro e w' ⟨rfl, rfl⟩)
    | (go_at_call 42; refine HO.out.mono ?_; rintro e w' ⟨rfl, rfl⟩)
    | (go_at_call 25; refine (within_c _ _ _ _).mono ?_; rintro e w' ⟨rfl, rfl⟩; rw [H7.out])
    | (go_at_call 43; with_reducible refine (HL.out _ HV.out HU.out).mono ?_; rintro e w1 ⟨rfl, hb1⟩)
    | (go_at_call 43; with_reducible refine (HH.out _ (HV.out.below hb1 (Nat.le_refl _)) (HU.out.below hb1 (Nat.le_refl _))).mono ?_; rintro e w2 ⟨rfl, hb2⟩))
  go_ret3
  exact ⟨rfl, hb1.trans (hb2.mono hb1.size)⟩

set_option maxHeartbeats 1000000 in
theorem mean_bad (cs vs : List Int) (d : Int) (v u : Value) (w : World) (hv : Ints w v cs) (hu : Ints w u vs) (h : mnOk cs vs d = false) :
    Calls Try.prog 14 #[v, u, .int .i64 d] w fun e w' => e = .returned (.tuple #[.int .i64 0, .int .i64 0, .int .i64 2]) ∧ Below w.heap.size w w' := by
  have HC : Hid (Calls Try.prog 38 #[v] w fun e w' => e = .returned (.bool (countB cs)) ∧ w = w') := counted_c cs v w hv
  have HO : Hid (Calls Try.prog 42 #[u, .func (.func 41) #[] #[]] w fun e w' => e = .returned (.bool (vs.any fun x => !wB x (-68719476736) 68719476736)) ∧ w = w') :=
    containsFuncFix_c 41 #[] vs _ u w (mean1_pure vs) hu
  obtain ⟨p, cap, rfl⟩ := hv.shape
  obtain ⟨p', cap', rfl⟩ := hu.shape
  clear hv hu
  have hcases : ∃ b1 b2 b3 b4 : Bool, countB cs = b1 ∧ ((vs.length : Int) != (cs.length : Int)) = b2 ∧ (vs.any fun x => !wB x (-68719476736) 68719476736) = b3 ∧ wB d 1 1000 = b4 ∧ (!b1 || (b2 || (b3 || !b4))) = true := by
    refine ⟨_, _, _, _, rfl, rfl, rfl, rfl, ?_⟩
    unfold mnOk at h
    have e : decide (vs.length = cs.length) = !((vs.length : Int) != (cs.length : Int)) := by
      rw [Bool.eq_iff_iff, decide_eq_true_eq, bne, Bool.not_not, beq_iff_eq]; omega
    rw [e] at h
    revert h
    generalize countB cs = b1
    generalize ((vs.length : Int) != (cs.length : Int)) = b2
    generalize (vs.any fun x => !wB x (-68719476736) 68719476736) = b3
    generalize wB d 1 1000 = b4
    revert b1 b2 b3 b4
    decide
  obtain ⟨b1, b2, b3, b4, e1, e2, e3, e4, e5⟩ := hcases
  rw [e1] at HC
  rw [e3] at HO
  have H4 := Hid.mk' e4
  clear e1 e3 e4 h
  cases b1
  · clear e5
    go_enter Try.func14, Try.ntmps14
    go_wp2_with (go_at_call 38; refine HC.out.mono ?_; rintro e w' ⟨rfl, rfl⟩)
    go_ret3
    exact ⟨rfl, Below.refl _ _⟩
  cases b2
  case true =>
    clear e5
    go_enter Try.func14, Try.ntmps14
    go_wp2_with (go_at_call 38; refine HC.out.mono ?_; rintro e w' ⟨rfl, rfl⟩)
    go_ret3
    exact ⟨rfl, Below.refl _ _⟩
  cases b3
  case true =>
    clear e5
    go_enter Try.func14, Try.ntmps14
    go_wp2_with (first
      | (go_at_call 38; refine HC.out.mono ?_; rintro e w' ⟨rfl, rfl⟩)
      | (go_at_call 42; refine HO.out.mono ?_; rintro e w' ⟨rfl, rfl⟩))
    go_ret3
    exact ⟨rfl, Below.refl _ _⟩
  cases b4
  case true => simp at e5
  clear e5
  go_enter Try.func14, Try.ntmps14
  go_wp2_with (first
    | (go_at_call 38; refine HC.out.mono ?_; rintro e w' ⟨rfl, rfl⟩)
    | (go_at_call 42; refine HO.out.mono ?_; rintro e w' ⟨rfl, rfl⟩)
    | (go_at_call 25; refine (within_c _ _ _ _).mono ?_; rintro e w' ⟨rfl, rfl⟩; rw [H4.out]))
  go_ret3
  exact ⟨rfl, Below.refl _ _⟩
end Go.Proofs.Ytleceelemogbcaa
