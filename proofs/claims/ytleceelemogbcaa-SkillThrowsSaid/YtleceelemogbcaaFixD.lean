/- Contracts of package fixed: numbers of 128 bits. -/
import Derived.Test.YtleceelemogbcaaFixA
import Derived.Test.YtleceelemogbcaaFixC
import Derived.Deep.RegionHeld3
import Derived.StillTailTactics
import Derived.Deep.DeepCutAuto
namespace Go.Proofs.Ytleceelemogbcaa
open Go.RowKit NumA

/-- The high and the low word of a number. -/
def hiW (n : Int) : Int := n / 18446744073709551616
def loW (n : Int) : Int := n % 18446744073709551616

theorem hiW_word {n : Int} (h0 : 0 ≤ n) (h1 : n < 340282366920938463463374607431768211456) : Word (hiW n) := by unfold Word hiW; omega
theorem loW_word (n : Int) : Word (loW n) := by unfold Word loW; omega
theorem hiW_loW (n : Int) : hiW n * 18446744073709551616 + loW n = n := by unfold hiW loW; omega
theorem hiW_of {h l : Int} (hl : Word l) : hiW (h * 18446744073709551616 + l) = h := by unfold Word at hl; unfold hiW; omega
theorem loW_of {h l : Int} (hl : Word l) : loW (h * 18446744073709551616 + l) = l := by unfold Word at hl; unfold loW; omega

theorem mul_lt_128 {x y : Int} (hx : Word x) (hy : Word y) : 0 ≤ x * y ∧ x * y < 340282366920938463463374607431768211456 := by
  obtain ⟨a, b⟩ := hx; obtain ⟨c, d⟩ := hy
  refine ⟨Int.mul_nonneg a c, ?_⟩
  have : x * y ≤ 18446744073709551615 * 18446744073709551615 := Int.mul_le_mul (by omega) (by omega) c (by omega)
  omega

/-- wide as a value. -/
abbrev wideV (h l : Int) : Value := .agg #[.int .u64 h, .int .u64 l]

/-- fixed.product. -/
theorem product_c (x y : Int) (w : World) (hx : Word x) (hy : Word y) :
    Calls Try.prog 82 #[.int .u64 x, .int .u64 y] w fun e w' => e = .returned (wideV (hiW (x * y)) (loW (x * y))) ∧ Below w.heap.size w w' := by
  go_enter Try.func82, Try.ntmps82
  go_wp2_with (go_at_call 95; refine (mul64 _ _ hx hy _).mono ?_; rintro e w' ⟨rfl, rfl⟩)
  exact bodyPost_ret (v := wideV (hiW (x * y)) (loW (x * y))) (by simp [results, Try.results82, go_sem, hiW, loW]) rfl ⟨rfl, (Below.refl _ _).alloc (Nat.le_refl _) _⟩

/-- What is carried. -/
def carryI (b d : Int) : Int := (b + d) / 18446744073709551616

/-- fixed.wide.plus, where there is room. -/
theorem plus_c (a b c d : Int) (w : World) (ha : Word a) (hb : Word b) (hc : Word c) (hd : Word d) (hr : a + c + carryI b d < 18446744073709551616) :
    Calls Try.prog 92 #[wideV a b, wideV c d] w fun e w' => e = .returned (wideV (a + c + carryI b d) (loW (b + d))) ∧ Below w.heap.size w w' := by
  obtain ⟨a1, a2⟩ := ha; obtain ⟨b1, b2⟩ := hb; obtain ⟨c1, c2⟩ := hc; obtain ⟨d1, d2⟩ := hd
  unfold carryI at *
  have k0 : 0 ≤ (b + d) / 18446744073709551616 := by omega
  have k1 : (b + d) / 18446744073709551616 ≤ 1 := by omega
  go_enter Try.func92, Try.ntmps92
  go_wp2_with (first | simp only [add64_0 b d b1 d1] | simp only [add64 a c _ a1 c1 k0 k1])
  refine bodyPost_ret (v := wideV (a + c + (b + d) / 18446744073709551616) (loW (b + d))) ?_ rfl ⟨rfl, ?_⟩
  · have e : (a + c + (b + d) / 18446744073709551616) % 18446744073709551616 = a + c + (b + d) / 18446744073709551616 := by omega
    simp [results, Try.results92, go_sem, loW, e]
  · exact (((Below.refl _ _).alloc (Nat.le_refl _) _).alloc (by simp) _).alloc (by simp; omega) _

/-- How two numbers compare. -/
def cmpI (a b : Int) : Int := if a < b then -1 else if b < a then 1 else 0

theorem isNaN_c (x : Int) (w : World) : Calls Try.prog 102 #[.int .u64 x] w fun e w' => e = .returned (.bool false) ∧ w = w' := by
  go_enter Try.func102, Try.ntmps102
  go_wp2
  go_ret
  exact ⟨by simp, rfl⟩

theorem compare_c (x y : Int) (w : World) : Calls Try.prog 100 #[.int .u64 x, .int .u64 y] w fun e w' => e = .returned (.int .i64 (cmpI x y)) ∧ w = w' := by
  unfold cmpI
  go_enter Try.func100, Try.ntmps100
  go_wp2_with (go_at_call 102; refine (isNaN_c _ _).mono ?_; rintro e w' ⟨rfl, rfl⟩)
  all_goals (go_ret; exact ⟨by simp [*], rfl⟩)
/-- The first one that is not 0. -/
def orI (x y : Int) : Int := if x = 0 then y else x

/-- cmp.Or of two numbers. -/
theorem or_c (x y : Int) (b : Nat) (w : World) (h0 : w.cell? ⟨b, 0, none⟩ = some (.int .i64 x)) (h1 : w.cell? ⟨b, 1, none⟩ = some (.int .i64 y)) :
    Calls Try.prog 99 #[.slice (some ⟨b, 0, none⟩) 2 2] w fun e w' => e = .returned (.int .i64 (orI x y)) ∧ w = w' := by
  unfold orI
  go_enter Try.func99, Try.ntmps99
  go_wp2
  go_loop [5, 8] (fun _ i => i = .int .i64 0 ∨ (i = .int .i64 1 ∧ x = 0) ∨ (i = .int .i64 2 ∧ x = 0 ∧ y = 0)) (fun _ i => (2 - intOf i).toNat)
  case atStart => exact .inl rfl
  case round =>
    rcases hrel with rfl | ⟨rfl, rfl⟩ | ⟨rfl, rfl, rfl⟩
    · by_cases hx : x = 0
      · subst hx
        go_wp2
        go_round
        case rel => simp
        case measure => simp [intOf]
      · have hxb : (x != 0) = true := by simpa using hx
        go_wp2
        go_ret
        exact ⟨by simp [hx], rfl⟩
    · by_cases hy : y = 0
      · subst hy
        go_wp2
        go_round
        case rel => simp
        case measure => simp [intOf]
      · have hxb : (y != 0) = true := by simpa using hy
        go_wp2
        go_ret
        exact ⟨by simp, rfl⟩
    · go_wp2
      go_ret
      exact ⟨by simp, rfl⟩

set_option maxHeartbeats 1000000 in
/-- fixed.wide.compare. -/
theorem wcompare_c (a b c d : Int) (w : World) :
    Calls Try.prog 93 #[wideV a b, wideV c d] w fun e w' => e = .returned (.int .i64 (orI (cmpI a c) (cmpI b d))) ∧ Below w.heap.size w w' := by
  go_enter Try.func93, Try.ntmps93
  go_wp2_with fail
  go_region_held3 (fun w' => w'.cell? ⟨w.heap.size, 0, none⟩ = some (.int .u64 a) ∧ w'.cell? ⟨w.heap.size, 1, none⟩ = some (.int .u64 b) ∧ w'.cell? ⟨w.heap.size + 1, 0, none⟩ = some (.int .u64 c) ∧ w'.cell? ⟨w.heap.size + 1, 1, none⟩ = some (.int .u64 d)) (simp [go_sem, World.cell?_alloc_past])
    (first
      | (go_at_call_of 100 (Value.int .u64 a); refine (compare_c a c _).mono ?_; rintro e w' ⟨rfl, rfl⟩)
      | (go_at_call_of 100 (Value.int .u64 b); refine (compare_c b d _).mono ?_; rintro e w' ⟨rfl, rfl⟩)
      | (go_at_call 99; refine (or_c (cmpI a c) (cmpI b d) (w.heap.size + 2) _ (by simp [go_sem]) (by simp [go_sem])).mono ?_; rintro e w' ⟨rfl, rfl⟩))
  go_wp2
  go_ret
  refine ⟨rfl, ?_⟩
  exact ((((Below.refl _ _).alloc (Nat.le_refl _) _).alloc (by simp) _).alloc (by simp; omega) _).drew
/-- The quotient and the rest of two words. -/
def quoI (h l b : Int) : Int := (h * 18446744073709551616 + l) / b
def remI (h l b : Int) : Int := (h * 18446744073709551616 + l) % b

theorem div64_i (h l b : Int) (w : World) (hh : 0 ≤ h) (hl : Word l) (hb : b < 18446744073709551616) (hlt : h < b) :
    Calls Try.prog 97 #[.int .u64 h, .int .u64 l, .int .u64 b] w fun e w' => e = .returned (.tuple #[.int .u64 (quoI h l b), .int .u64 (remI h l b)]) ∧ ∃ n, w' = w.drewN n := by
  obtain ⟨l1, l2⟩ := hl
  obtain ⟨h, rfl⟩ := Int.eq_ofNat_of_zero_le hh
  obtain ⟨l, rfl⟩ := Int.eq_ofNat_of_zero_le l1
  obtain ⟨b, rfl⟩ := Int.eq_ofNat_of_zero_le (show 0 ≤ b by omega)
  have e1 : quoI (h : Int) l b = (((h * 18446744073709551616 + l) / b : Nat) : Int) := by unfold quoI; rw [Int.natCast_ediv, Int.natCast_add, Int.natCast_mul]; rfl
  have e2 : remI (h : Int) l b = (((h * 18446744073709551616 + l) % b : Nat) : Int) := by unfold remI; rw [Int.natCast_emod, Int.natCast_add, Int.natCast_mul]; rfl
  rw [e1, e2]
  exact div64 h l b w (by omega) (by omega) (by omega)

/-- fixed.wide.over, where there is a quotient. -/
theorem over_yes (h l b : Int) (w : World) (hh : 0 ≤ h) (hl : Word l) (hb : b < 18446744073709551616) (hlt : h < b) :
    Calls Try.prog 91 #[wideV h l, .int .u64 b] w fun e w' => e = .returned (.tuple #[.int .u64 (quoI h l b), .int .u64 (remI h l b), .bool true]) ∧ Below w.heap.size w w' := by
  have hd : decide ((b : Int) ≤ (h : Int)) = false := by simp only [decide_eq_false_iff_not]; omega
  go_enter Try.func91, Try.ntmps91
  go_wp2_with (go_at_call 97; refine (div64_i h l b _ hh hl hb hlt).mono ?_; rintro e w' ⟨rfl, n, rfl⟩)
  go_ret3
  exact ⟨rfl, ((Below.refl _ _).alloc (Nat.le_refl _) _).trans ⟨rfl, rfl, rfl, Nat.le_refl _, fun _ _ => rfl⟩⟩

/-- fixed.wide.over, where there is none. -/
theorem over_no (h l b : Int) (w : World) (hlt : b ≤ h) :
    Calls Try.prog 91 #[wideV h l, .int .u64 b] w fun e w' => e = .returned (.tuple #[.int .u64 0, .int .u64 0, .bool false]) ∧ Below w.heap.size w w' := by
  have hd : decide ((b : Int) ≤ (h : Int)) = true := by simp only [decide_eq_true_eq]; omega
  go_enter Try.func91, Try.ntmps91
  go_wp2_with fail
  go_ret3
  exact ⟨rfl, (Below.refl _ _).alloc (Nat.le_refl _) _⟩

end Go.Proofs.Ytleceelemogbcaa
