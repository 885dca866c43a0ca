/- The contract of math/bits.Div64. -/
import Derived.Test.YtleceelemogbcaaFixB
import Derived.Test.YtleceelemogbcaaNumA
import Derived.Deep.QuietTactic
import Derived.BigQuiet
import Derived.Outline
import Derived.LoopTactic
import Derived.Laws.BitsAllLaws
import Derived.Deep.DeepCutAuto
import Derived.Deep.CutBlock
import Derived.Deep.CutRange
import Derived.Deep.LoopGhost
namespace Go.Proofs.Ytleceelemogbcaa
open Go.RowKit NumA

theorem div64_small (lo y : Nat) (w : World) (h0 : 0 < y) (hy : y < 18446744073709551616) (hlo : lo < 18446744073709551616) :
    Calls Try.prog 97 #[.int .u64 0, .int .u64 lo, .int .u64 y] w fun e w' => e = .returned (.tuple #[.int .u64 ((lo / y : Nat) : Int), .int .u64 ((lo % y : Nat) : Int)]) ∧ ∃ n, w' = w.drewN n := by
  have h1 : ((y : Int) == 0) = false := by simp; omega
  have h2 : ¬ (y : Int) ≤ 0 := by omega
  have h3 : ¬ (y : Int) = 0 := by omega
  have hl := Nat.div_le_self lo y
  have e : ∀ k : Int, k = ((lo / y : Nat) : Int) → IntKind.u64.wrap k = ((lo / y : Nat) : Int) := by
    intro k hk; rw [hk, IntKind.wrap_u64]; generalize lo / y = g at *; omega
  have e' := e (lo / y) (Int.natCast_ediv lo y).symm
  clear e
  go_enter Try.func97, Try.ntmps97
  go_wp2
  go_quiet (fail)
  go_wp2
  go_ret2
  exact ⟨rfl, _, rfl⟩

theorem shl_u (y s : Nat) (h2 : y * 2 ^ s < 2 ^ 64) : IntKind.u64.wrap ((y : Int) * 2 ^ s) = ((y * 2 ^ s : Nat) : Int) := by
  have e : (y : Int) * 2 ^ s = ((y * 2 ^ s : Nat) : Int) := by rw [Int.natCast_mul, Int.natCast_pow]; rfl
  have h2' : y * 2 ^ s < 18446744073709551616 := h2
  rw [e, IntKind.wrap_u64]
  generalize y * 2 ^ s = k at *
  omega

theorem shl_mod (y s : Nat) : IntKind.u64.wrap ((y : Int) * 2 ^ s) = ((y * 2 ^ s % 18446744073709551616 : Nat) : Int) := by
  have e : (y : Int) * 2 ^ s = ((y * 2 ^ s : Nat) : Int) := by rw [Int.natCast_mul, Int.natCast_pow]; rfl
  rw [e, IntKind.wrap_u64]
  generalize y * 2 ^ s = k at *
  omega

/-- What lies in the words behind the shift. -/
structure Setup (hi lo y s v y1 y0 u n1 n0 : Nat) : Prop where
  norm : Norm v y1 y0
  ltv : v < 18446744073709551616
  ltu : u < v
  lt1 : n1 < 4294967296
  lt0 : n0 < 4294967296
  quo : (u * 18446744073709551616 + (n1 * 4294967296 + n0)) / v = (hi * 18446744073709551616 + lo) / y
  rem : (u * 18446744073709551616 + (n1 * 4294967296 + n0)) % v / 2 ^ s = (hi * 18446744073709551616 + lo) % y

theorem set_up (hi lo y s : Nat) (hh : hi < y) (hlo : lo < 18446744073709551616) (hs : s ≤ 63) (h1 : 2 ^ 63 ≤ y * 2 ^ s) (h2 : y * 2 ^ s < 2 ^ 64) :
    ∃ v y1 y0 u n1 n0 n10 : Nat, IntKind.u64.wrap ((y : Int) * 2 ^ s) = (v : Int) ∧ bits .and .u64 (v : Int) 4294967295 = (y0 : Int) ∧ (v : Int) / 4294967296 = (y1 : Int) ∧
      bits .or .u64 (IntKind.u64.wrap ((hi : Int) * 2 ^ s)) ((lo : Int) / 2 ^ (64 - s)) = (u : Int) ∧ IntKind.u64.wrap ((lo : Int) * 2 ^ s) = (n10 : Int) ∧
      bits .and .u64 (n10 : Int) 4294967295 = (n0 : Int) ∧ (n10 : Int) / 4294967296 = (n1 : Int) ∧ Setup hi lo y s v y1 y0 u n1 n0 := by
  have hP : 0 < 2 ^ s := Nat.two_pow_pos s
  have hPQ : 2 ^ s * 2 ^ (64 - s) = 18446744073709551616 := by rw [← Nat.pow_add, show s + (64 - s) = 64 by omega]
  have hQ : 0 < 2 ^ (64 - s) := Nat.two_pow_pos _
  have hhs : (hi + 1) * 2 ^ s ≤ y * 2 ^ s := Nat.mul_le_mul_right _ hh
  rw [Nat.add_mul, Nat.one_mul] at hhs
  have h2' : y * 2 ^ s < 18446744073709551616 := h2
  have h1' : 9223372036854775808 ≤ y * 2 ^ s := h1
  have hl1 : lo / 2 ^ (64 - s) < 2 ^ s := by
    rw [Nat.div_lt_iff_lt_mul hQ, hPQ]; exact hlo
  have hor : hi * 2 ^ s ||| lo / 2 ^ (64 - s) = hi * 2 ^ s + lo / 2 ^ (64 - s) := nat_join s _ _ (by simp) hl1
  have ehi := shl_u hi s (by show _ < 18446744073709551616; omega)
  have elo : ((lo : Int) / 2 ^ (64 - s)) = ((lo / 2 ^ (64 - s) : Nat) : Int) := by
    rw [Int.natCast_ediv, Int.natCast_pow]; rfl
  have hdm := Nat.div_add_mod lo (2 ^ (64 - s))
  have hsplit : lo * 2 ^ s = lo / 2 ^ (64 - s) * 18446744073709551616 + lo * 2 ^ s % 18446744073709551616 := by
    have : lo * 2 ^ s / 18446744073709551616 = lo / 2 ^ (64 - s) := by
      rw [← hPQ, Nat.mul_comm lo, Nat.mul_div_mul_left _ _ hP]
    have := Nat.div_add_mod (lo * 2 ^ s) 18446744073709551616
    omega
  have hsh := shifted (hi * 18446744073709551616 + lo) y s
  have hall : (hi * 18446744073709551616 + lo) * 2 ^ s = (hi * 2 ^ s + lo / 2 ^ (64 - s)) * 18446744073709551616 + (lo * 2 ^ s % 18446744073709551616 / 4294967296 * 4294967296 + lo * 2 ^ s % 18446744073709551616 % 4294967296) := by
    rw [Nat.add_mul, Nat.mul_right_comm]
    omega
  rw [hall] at hsh
  refine ⟨y * 2 ^ s, y * 2 ^ s / 4294967296, y * 2 ^ s % 4294967296, hi * 2 ^ s + lo / 2 ^ (64 - s), lo * 2 ^ s % 18446744073709551616 / 4294967296, lo * 2 ^ s % 18446744073709551616 % 4294967296, lo * 2 ^ s % 18446744073709551616,
    shl_u y s h2, MulN.maskN _ h2', by omega, ?_, shl_mod lo s, MulN.maskN _ (by omega), by omega, ⟨⟨by omega, by omega, by omega, by omega⟩, h2', by omega, by omega, by omega, hsh.1, hsh.2⟩⟩
  rw [ehi, elo, bits_or_u64_nat _ _ (by omega) (by omega), hor]

theorem u64_mul (a b : Nat) (h : a * b < 18446744073709551616) : IntKind.u64.wrap ((a : Int) * b) = ((a * b : Nat) : Int) := by
  rw [IntKind.wrap_u64, ← Int.natCast_mul]; omega

/-- The first estimate as the walk has it. -/
theorem dig_setup {u v y1 y0 n1 : Nat} (h : Norm v y1 y0) (hn : n1 < 4294967296) (hu : u < v) (hv : v < 18446744073709551616) :
    ∃ q p r : Nat, (u : Int) / y1 = (q : Int) ∧ IntKind.u64.wrap ((q : Int) * y1) = (p : Int) ∧ (u : Int) - p = (r : Int) ∧ p ≤ u ∧ q ≤ 4294967297 ∧ r < 4294967296 ∧ 0 < y1 ∧ y1 < 4294967296 ∧ u < 18446744073709551616 ∧ Dig u v y1 n1 q r := by
  have d := Dig.first h hn hu
  have e := Nat.div_mul_le_self u y1
  have t := h.high
  have t' := h.top
  refine ⟨u / y1, u / y1 * y1, u - u / y1 * y1, (Int.natCast_ediv u y1).symm, u64_mul _ _ (by omega), by omega, e, d.2.2.1, d.2.2.2, by omega, t', by omega, d⟩

/-- A round's test, both ways. -/
theorem dig_test {u v y1 y0 n1 Q R : Nat} (h : Norm v y1 y0) (d : Dig u v y1 n1 Q R) (hn : n1 < 4294967296) (hu : u < v) (ht : 4294967296 ≤ Q ∨ 4294967296 * R + n1 < Q * y0) :
    0 < Q ∧ R < 4294967296 ∧ (R + y1 < 4294967296 → Dig u v y1 n1 (Q - 1) (R + y1)) ∧ (4294967296 ≤ R + y1 → DigAt u v n1 (Q - 1)) :=
  let ⟨a, b, c⟩ := d.less h hn hu ht; ⟨a, d.2.2.2, b, c⟩

theorem mul_small {Q y0 : Nat} (h1 : Q < 4294967296) (h2 : y0 < 4294967296) : ∃ m : Nat, IntKind.u64.wrap ((Q : Int) * y0) = (m : Int) ∧ m = Q * y0 := by
  have := Nat.mul_le_mul (Nat.le_of_lt_succ h1) (Nat.le_of_lt_succ h2)
  exact ⟨_, u64_mul Q y0 (by omega), rfl⟩

theorem num_pred {Q : Nat} (h : (1 : Int) ≤ (Q : Int)) : Value.int .u64 ((Q : Int) - 1) = .int .u64 ((Q - 1 : Nat) : Int) := by
  have : (Q : Int) - 1 = ((Q - 1 : Nat) : Int) := by omega
  rw [this]
theorem num_add (a b : Nat) : Value.int .u64 ((a : Int) + (b : Int)) = .int .u64 ((a + b : Nat) : Int) := by rw [Int.natCast_add]

theorem ret_u64s {a b c d : Int} (h1 : a = c) (h2 : b = d) : Ending.returned (.tuple #[.int .u64 a, .int .u64 b]) = .returned (.tuple #[.int .u64 c, .int .u64 d]) := by rw [h1, h2]

/-- The test's parts as the walk spells them. -/
theorem dig_bools {Q R y0 n1 : Nat} (h : 4294967296 ≤ Q ∨ 4294967296 * R + n1 < Q * y0) (hy0 : y0 < 4294967296) (hn : n1 < 4294967296) (hR : (R : Int) < 4294967296) :
    ∃ m : Nat, ((Q : Int) < 4294967296 → IntKind.u64.wrap ((Q : Int) * y0) = (m : Int)) ∧ (decide ((4294967296 : Int) ≤ (Q : Int)) = true ∨
      (decide ((4294967296 : Int) ≤ (Q : Int)) = false ∧ IntKind.u64.wrap ((Q : Int) * y0) = (m : Int) ∧ decide ((4294967296 : Int) * R + n1 < (m : Int)) = true)) := by
  refine ⟨Q * y0, ?_, ?_⟩
  · intro hq
    exact u64_mul Q y0 (by have := Nat.mul_le_mul (show Q ≤ 4294967295 by omega) (show y0 ≤ 4294967295 by omega); omega)
  · by_cases hq : 4294967296 ≤ Q
    · left; simp only [decide_eq_true_eq]; omega
    · right
      have hl := Nat.mul_le_mul (show Q ≤ 4294967295 by omega) (show y0 ≤ 4294967295 by omega)
      refine ⟨by simp only [decide_eq_false_iff_not]; omega, u64_mul Q y0 (by omega), ?_⟩
      rcases h with h | h
      · omega
      · simp only [decide_eq_true_eq]; omega

theorem dig_bools_no {Q R y0 n1 : Nat} (h : ¬ (4294967296 ≤ Q ∨ 4294967296 * R + n1 < Q * y0)) (hy0 : y0 < 4294967296) (hn : n1 < 4294967296) (hR : (R : Int) < 4294967296) :
    decide ((4294967296 : Int) ≤ (Q : Int)) = false ∧ ∃ m : Nat, IntKind.u64.wrap ((Q : Int) * y0) = (m : Int) ∧ decide ((4294967296 : Int) * R + n1 < (m : Int)) = false := by
  have hl := Nat.mul_le_mul (show Q ≤ 4294967295 by omega) (show y0 ≤ 4294967295 by omega)
  refine ⟨by simp only [decide_eq_false_iff_not]; omega, Q * y0, u64_mul Q y0 (by omega), ?_⟩
  simp only [decide_eq_false_iff_not]; omega

theorem rest_w {u v n1 Q : Nat} (d : DigAt u v n1 Q) (hu : u < v) (hn : n1 < 4294967296) (hv : v < 18446744073709551616) :
    ∃ r : Nat, IntKind.u64.wrap (IntKind.u64.wrap (IntKind.u64.wrap ((u : Int) * 4294967296) + n1) - IntKind.u64.wrap ((Q : Int) * v)) = (r : Int) ∧ Hid (r = (u * 4294967296 + n1) % v) ∧ r < v ∧ Q < 4294967296 := by
  obtain ⟨a, b, c⟩ := d.rest hu hn hv
  exact ⟨_, by simp only [IntKind.wrap_u64]; exact b, rfl, c, a⟩

theorem div_fin {hi lo y s v y1 y0 u n1 n0 q1 r1 q0 r0 : Nat} (h : Setup hi lo y s v y1 y0 u n1 n0) (d1 : DigAt u v n1 q1) (e1 : r1 = (u * 4294967296 + n1) % v)
    (d0 : DigAt r1 v n0 q0) (e0 : r0 = (r1 * 4294967296 + n0) % v) : q1 * 4294967296 + q0 = (hi * 18446744073709551616 + lo) / y ∧ r0 / 2 ^ s = (hi * 18446744073709551616 + lo) % y := by
  obtain ⟨a, b⟩ := two_digits u v n1 n0 (by have := h.ltu; omega)
  unfold DigAt at d1 d0
  rw [← h.quo, ← h.rem, a, b, ← e1, ← d1, ← e0, ← d0]
  exact ⟨rfl, rfl⟩

set_option maxHeartbeats 2000000 in
set_option maxRecDepth 100000 in
theorem div64_big (hi lo y : Nat) (w : World) (h0 : 0 < hi) (hh : hi < y) (hy : y < 18446744073709551616) (hlo : lo < 18446744073709551616) :
    Calls Try.prog 97 #[.int .u64 hi, .int .u64 lo, .int .u64 y] w fun e w' => e = .returned (.tuple #[.int .u64 (((hi * 18446744073709551616 + lo) / y : Nat) : Int), .int .u64 (((hi * 18446744073709551616 + lo) % y : Nat) : Int)]) ∧ w = w' := by
  have h1 : ((y : Int) == 0) = false := by simp; omega
  have h2 : ¬ (y : Int) ≤ hi := by omega
  have h3 : ((hi : Int) == 0) = false := by simp; omega
  go_enter Try.func97, Try.ntmps97
  go_upto_block 0 with (go_at_call 101; refine (lead64 y _ (by omega) hy).mono ?_; rintro e w' ⟨⟨s, rfl, hs, hs1, hs2⟩, rfl⟩; obtain ⟨v, y1, y0, u, n1, n0, n10, e1, e2, e3, e4, e5, e6, e7, hset⟩ := set_up hi lo y s hh hlo hs hs1 hs2; obtain ⟨q, p, r, e8, e9, e10, hp, hq, hr, hy1, hy2, hu, hd⟩ := dig_setup hset.norm hset.lt1 hset.ltu hset.ltv)
  have hn1 := hset.lt1
  have hn0 := hset.lt0
  have hy0 := hset.norm.low
  have hv := hset.ltv
  have hs' : (s : Int) ≤ 63 := by omega
  clear e1 e2 e3 e4 e5 e6 e7 e8 e9 e10 hs1 hs2 h1 h2 h3
  go_cut [15, 16] (fun s15 s16 wx => ∃ Q : Nat, s15 = .int .u64 Q ∧ DigAt u v n1 Q ∧ w = wx)
  case first =>
    go_wp2_with fail
    go_loop [15, 16] (fun s15 s16 => ∃ Q R : Nat, s15 = .int .u64 Q ∧ s16 = .int .u64 R ∧ Dig u v y1 n1 Q R) (fun s15 _ => (intOf s15).toNat)
    case atStart => exact ⟨q, r, rfl, rfl, hd⟩
    case round =>
      obtain ⟨Q, R, rfl, rfl, hdig⟩ := hrel
      have hqi : (Q : Int) ≤ 4294967297 := by have := hdig.2.2.1; omega
      have hR : (R : Int) < 4294967296 := by have := hdig.2.2.2; omega
      by_cases hb : 4294967296 ≤ Q ∨ 4294967296 * R + n1 < Q * y0
      · obtain ⟨g0, -, g1, g2⟩ := dig_test hset.norm hdig hn1 hset.ltu hb
        have hg0 : (1 : Int) ≤ (Q : Int) := by omega
        have ⟨m, hm, ht⟩ := dig_bools hb hy0 hn1 hR
        by_cases hc : R + y1 < 4294967296
        · have g := g1 hc
          have hcd : decide ((4294967296 : Int) ≤ (R : Int) + (y1 : Int)) = false := by simp only [decide_eq_false_iff_not]; omega
          clear g1 g2 hdig hb hc
          rcases ht with ht | ⟨ht, ht'⟩
          all_goals
            go_wp2_with fail
            go_round
            case rel => exact ⟨Q - 1, R + y1, num_pred hg0, num_add R y1, g⟩
            case measure => simp [intOf]; omega
        · have g := g2 (by omega)
          have hcd : decide ((4294967296 : Int) ≤ (R : Int) + (y1 : Int)) = true := by simp only [decide_eq_true_eq]; omega
          clear g1 g2 hdig hb hc
          rcases ht with ht | ⟨ht, ht'⟩
          all_goals
            go_wp2_with fail
            go_meet
            exact ⟨Q - 1, num_pred hg0, g, rfl⟩
      · obtain ⟨ht, m, hm, ht'⟩ := dig_bools_no hb hy0 hn1 hR
        have g : DigAt u v n1 Q := hdig.done hset.norm (by omega) (by omega)
        clear hdig hb
        go_wp2_with fail
        go_meet
        exact ⟨Q, rfl, g, rfl⟩
  case rest =>
    obtain ⟨Q1, rfl, d1, rfl⟩ := hcut
    obtain ⟨r1, e1, hr1, hv1, hQ1⟩ := rest_w d1 hset.ltu hn1 hv
    obtain ⟨q', p', r', e8, e9, e10, hp', hq', hr', -, -, hu', hd'⟩ := dig_setup hset.norm hn0 hv1 hv
    go_upto_block 2 with fail
    clear e1 e8 e9 e10
    go_cut [16, 18] (fun s16 s18 wx => ∃ Q : Nat, s18 = .int .u64 Q ∧ DigAt r1 v n0 Q ∧ w = wx)
    case first =>
      go_wp2_with fail
      go_loop [16, 18] (fun s16 s18 => ∃ Q R : Nat, s18 = .int .u64 Q ∧ s16 = .int .u64 R ∧ Dig r1 v y1 n0 Q R) (fun _ s18 => (intOf s18).toNat)
      case atStart => exact ⟨q', r', rfl, rfl, hd'⟩
      case round =>
        obtain ⟨Q, R, rfl, rfl, hdig⟩ := hrel
        have hqi : (Q : Int) ≤ 4294967297 := by have := hdig.2.2.1; omega
        have hR : (R : Int) < 4294967296 := by have := hdig.2.2.2; omega
        by_cases hb : 4294967296 ≤ Q ∨ 4294967296 * R + n0 < Q * y0
        · obtain ⟨g0, -, g1, g2⟩ := dig_test hset.norm hdig hn0 hv1 hb
          have hg0 : (1 : Int) ≤ (Q : Int) := by omega
          have ⟨m, hm, ht⟩ := dig_bools hb hy0 hn0 hR
          by_cases hc : R + y1 < 4294967296
          · have g := g1 hc
            have hcd : decide ((4294967296 : Int) ≤ (R : Int) + (y1 : Int)) = false := by simp only [decide_eq_false_iff_not]; omega
            clear g1 g2 hdig hb hc
            rcases ht with ht | ⟨ht, ht'⟩
            all_goals
              go_wp2_with fail
              go_round
              case rel => exact ⟨Q - 1, R + y1, num_pred hg0, num_add R y1, g⟩
              case measure => simp [intOf]; omega
          · have g := g2 (by omega)
            have hcd : decide ((4294967296 : Int) ≤ (R : Int) + (y1 : Int)) = true := by simp only [decide_eq_true_eq]; omega
            clear g1 g2 hdig hb hc
            rcases ht with ht | ⟨ht, ht'⟩
            all_goals
              go_wp2_with fail
              go_meet
              exact ⟨Q - 1, num_pred hg0, g, rfl⟩
        · obtain ⟨ht, m, hm, ht'⟩ := dig_bools_no hb hy0 hn0 hR
          have g : DigAt r1 v n0 Q := hdig.done hset.norm (by omega) (by omega)
          clear hdig hb
          go_wp2_with fail
          go_meet
          exact ⟨Q, rfl, g, rfl⟩
    case rest =>
      obtain ⟨Q0, rfl, d0, rfl⟩ := hcut
      obtain ⟨r0, e1, hr0, hv0, hQ0⟩ := rest_w d0 hv1 hn0 hv
      have hQ1' : (Q1 : Int) < 4294967296 := by omega
      have hQ0' : (Q0 : Int) < 4294967296 := by omega
      go_wp2_with fail
      go_ret2
      obtain ⟨f1, f2⟩ := div_fin hset d1 hr1.out d0 hr0.out
      refine ⟨?_, rfl⟩
      rw [← f1, ← f2]
      exact ret_u64s (by omega) (by rw [Int.natCast_ediv, Int.natCast_pow]; rfl)

/-- math/bits.Div64, where the divisor is above the high word. -/
theorem div64 (hi lo y : Nat) (w : World) (hh : hi < y) (hy : y < 18446744073709551616) (hlo : lo < 18446744073709551616) :
    Calls Try.prog 97 #[.int .u64 hi, .int .u64 lo, .int .u64 y] w fun e w' => e = .returned (.tuple #[.int .u64 (((hi * 18446744073709551616 + lo) / y : Nat) : Int), .int .u64 (((hi * 18446744073709551616 + lo) % y : Nat) : Int)]) ∧ ∃ n, w' = w.drewN n := by
  rcases Nat.eq_zero_or_pos hi with h | h
  · subst h
    rw [Nat.zero_mul, Nat.zero_add]
    exact div64_small lo y w hh hy hlo
  · exact (div64_big hi lo y w h hh hy hlo).mono fun e w' ⟨h1, h2⟩ => ⟨h1, 0, by rw [← h2]; rfl⟩
end Go.Proofs.Ytleceelemogbcaa
