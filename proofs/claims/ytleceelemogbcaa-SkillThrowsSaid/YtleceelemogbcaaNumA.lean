/- Plain arithmetic of the division of 128 bits by 64 bits (no program in sight). -/
import Derived.WalkKit
namespace Go.Proofs.Ytleceelemogbcaa.NumA

/-- One digit: an estimate that is too high or right, and passes the test, is right. -/
theorem digit_low (u v q r y1 y0 n1 : Nat) (hv : v = y1 * 4294967296 + y0) (hi : q * y1 + r = u) (hy0 : y0 < 4294967296)
    (ht : (q < 4294967296 ∧ q * y0 ≤ 4294967296 * r + n1) ∨ (4294967296 ≤ r ∧ q ≤ 4294967296)) : q * v ≤ u * 4294967296 + n1 := by
  have e : q * v = (q * y1) * 4294967296 + q * y0 := by rw [hv, Nat.mul_add, Nat.mul_assoc]
  have e2 : u * 4294967296 = (q * y1) * 4294967296 + r * 4294967296 := by rw [← hi, Nat.add_mul]
  rw [e, e2]
  have h : q * y0 ≤ r * 4294967296 + n1 := by
    rcases ht with ⟨_, h⟩ | ⟨h1, h2⟩
    · rw [Nat.mul_comm r]; exact h
    · have := Nat.mul_le_mul h2 (Nat.le_of_lt hy0)
      have := Nat.mul_le_mul_right 4294967296 h1
      omega
  omega

theorem digit_high (u v q n1 : Nat) (h : u * 4294967296 + n1 < q * v) : (u * 4294967296 + n1) / v < q := by
  have hv : 0 < v := by
    rcases Nat.eq_zero_or_pos v with h0 | h0
    · subst h0; omega
    · exact h0
  exact (Nat.div_lt_iff_lt_mul hv).2 h

/-- The test that is passed says that the estimate is too high. -/
theorem digit_more (u v q r y1 y0 n1 : Nat) (hv : v = y1 * 4294967296 + y0) (hi : q * y1 + r = u) (hn : n1 < 4294967296) (hu : u < v)
    (ht : 4294967296 ≤ q ∨ 4294967296 * r + n1 < q * y0) : (u * 4294967296 + n1) / v < q := by
  apply digit_high
  rcases ht with h | h
  · have h1 := Nat.mul_le_mul_right v h
    have h2 : (u + 1) * 4294967296 ≤ v * 4294967296 := Nat.mul_le_mul_right _ hu
    rw [Nat.mul_comm] at h1
    omega
  · have e : q * v = (q * y1) * 4294967296 + q * y0 := by rw [hv, Nat.mul_add, Nat.mul_assoc]
    have e2 : u * 4294967296 = (q * y1) * 4294967296 + r * 4294967296 := by rw [← hi, Nat.add_mul]
    omega

theorem digit_is (u v q n1 : Nat) (hl : q * v ≤ u * 4294967296 + n1) (hh : (u * 4294967296 + n1) / v ≤ q) (hv : 0 < v) : q = (u * 4294967296 + n1) / v :=
  Nat.le_antisymm ((Nat.le_div_iff_mul_le hv).2 hl) hh

/-- The first estimate: not too low, and at most one above the greatest digit. -/
theorem first_high (u v y1 y0 n1 : Nat) (hv : v = y1 * 4294967296 + y0) (hy0 : y0 < 4294967296) (hy1 : 2147483648 ≤ y1) (hn : n1 < 4294967296) (hu : u < v) :
    (u * 4294967296 + n1) / v ≤ u / y1 ∧ u / y1 ≤ 4294967297 := by
  have hy : 0 < y1 := by omega
  constructor
  · have h := Nat.lt_mul_div_succ u hy
    apply Nat.le_of_lt_succ
    apply digit_high
    rw [hv]
    have e : (u / y1 + 1) * (y1 * 4294967296 + y0) = y1 * (u / y1 + 1) * 4294967296 + (u / y1 + 1) * y0 := by
      rw [Nat.mul_add, ← Nat.mul_assoc, Nat.mul_comm (u / y1 + 1) y1]
    show _ < (u / y1 + 1) * _
    rw [e]
    have : (u + 1) * 4294967296 ≤ y1 * (u / y1 + 1) * 4294967296 := Nat.mul_le_mul_right _ h
    omega
  · apply Nat.le_of_lt_succ
    rw [Nat.div_lt_iff_lt_mul hy]
    omega

/-- What is left behind a digit. -/
theorem rest_is (u v n1 : Nat) : u * 4294967296 + n1 - (u * 4294967296 + n1) / v * v = (u * 4294967296 + n1) % v := by
  have := Nat.div_add_mod (u * 4294967296 + n1) v
  rw [Nat.mul_comm] at this
  omega

theorem digit_lt (u v n1 : Nat) (hn : n1 < 4294967296) (hu : u < v) : (u * 4294967296 + n1) / v < 4294967296 := by
  rw [Nat.div_lt_iff_lt_mul (by omega)]
  have := Nat.mul_le_mul_right 4294967296 hu
  rw [Nat.mul_comm 4294967296]
  omega

/-- Two digits make the quotient. -/
theorem two_digits_of (B u v n1 n0 : Nat) (hv : 0 < v) :
    (u * (B * B) + (n1 * B + n0)) / v = (u * B + n1) / v * B + ((u * B + n1) % v * B + n0) / v ∧
    (u * (B * B) + (n1 * B + n0)) % v = ((u * B + n1) % v * B + n0) % v := by
  have h := Nat.div_add_mod (u * B + n1) v
  generalize (u * B + n1) / v = q at *
  generalize (u * B + n1) % v = r at *
  have e : u * (B * B) + (n1 * B + n0) = v * (q * B) + (r * B + n0) := by
    have : (v * q + r) * B = (u * B + n1) * B := by rw [h]
    rw [Nat.add_mul, Nat.add_mul, Nat.mul_assoc, Nat.mul_assoc] at this
    omega
  rw [e]
  exact ⟨by rw [Nat.mul_add_div hv], by rw [Nat.mul_add_mod]⟩

theorem two_digits (u v n1 n0 : Nat) (hv : 0 < v) :
    (u * 18446744073709551616 + (n1 * 4294967296 + n0)) / v = (u * 4294967296 + n1) / v * 4294967296 + ((u * 4294967296 + n1) % v * 4294967296 + n0) / v ∧
    (u * 18446744073709551616 + (n1 * 4294967296 + n0)) % v = ((u * 4294967296 + n1) % v * 4294967296 + n0) % v :=
  two_digits_of 4294967296 u v n1 n0 hv

/-- A quotient of shifted numbers. -/
theorem shifted (n y s : Nat) : n * 2 ^ s / (y * 2 ^ s) = n / y ∧ n * 2 ^ s % (y * 2 ^ s) / 2 ^ s = n % y := by
  have h : 0 < 2 ^ s := Nat.two_pow_pos s
  exact ⟨Nat.mul_div_mul_right _ _ h, by rw [Nat.mul_mod_mul_right, Nat.mul_div_cancel _ h]⟩

/-- What a loop for a digit knows: the estimate, and what it leaves. -/
def Dig (u v y1 n1 Q R : Nat) : Prop := Q * y1 + R = u ∧ (u * 4294967296 + n1) / v ≤ Q ∧ Q ≤ 4294967297 ∧ R < 4294967296

/-- The digit is found. -/
def DigAt (u v n1 Q : Nat) : Prop := Q = (u * 4294967296 + n1) / v

structure Norm (v y1 y0 : Nat) : Prop where
  eq : v = y1 * 4294967296 + y0
  low : y0 < 4294967296
  high : 2147483648 ≤ y1
  top : y1 < 4294967296

theorem Dig.first {u v y1 y0 n1 : Nat} (h : Norm v y1 y0) (hn : n1 < 4294967296) (hu : u < v) : Dig u v y1 n1 (u / y1) (u - u / y1 * y1) := by
  obtain ⟨a, b⟩ := first_high u v y1 y0 n1 h.eq h.low h.high hn hu
  have e := Nat.div_add_mod' u y1
  have m := Nat.mod_lt u (show 0 < y1 by have := h.high; omega)
  have t := h.top
  exact ⟨by omega, a, b, by omega⟩

/-- Behind a test that says no. -/
theorem Dig.done {u v y1 y0 n1 Q R : Nat} (h : Norm v y1 y0) (d : Dig u v y1 n1 Q R) (h1 : Q < 4294967296) (h2 : Q * y0 ≤ 4294967296 * R + n1) : DigAt u v n1 Q := by
  have hh := h.high
  exact digit_is u v Q n1 (digit_low u v Q R y1 y0 n1 h.eq d.1 h.low (.inl ⟨h1, h2⟩)) d.2.1 (by rw [h.eq]; omega)

/-- A test that says yes: one less. -/
theorem Dig.less {u v y1 y0 n1 Q R : Nat} (h : Norm v y1 y0) (d : Dig u v y1 n1 Q R) (hn : n1 < 4294967296) (hu : u < v) (ht : 4294967296 ≤ Q ∨ 4294967296 * R + n1 < Q * y0) :
    0 < Q ∧ (R + y1 < 4294967296 → Dig u v y1 n1 (Q - 1) (R + y1)) ∧ (4294967296 ≤ R + y1 → DigAt u v n1 (Q - 1)) := by
  have hm := digit_more u v Q R y1 y0 n1 h.eq d.1 hn hu ht
  obtain ⟨d1, d2, d3, d4⟩ := d
  have hh := h.high
  have hQ : 0 < Q := Nat.lt_of_le_of_lt (Nat.zero_le _) hm
  generalize hg : (u * 4294967296 + n1) / v = g at *
  obtain ⟨q, rfl⟩ : ∃ q, Q = q + 1 := ⟨Q - 1, by omega⟩
  rw [Nat.add_sub_cancel]
  rw [Nat.add_mul, Nat.one_mul] at d1
  refine ⟨by omega, fun hr => ⟨by omega, by rw [hg]; omega, by omega, hr⟩, fun hr => ?_⟩
  exact digit_is u v q n1 (digit_low u v q (R + y1) y1 y0 n1 h.eq (by omega) h.low (.inr ⟨hr, by omega⟩)) (by rw [hg]; omega) (by rw [h.eq]; omega)

/-- What is left behind a digit, in words of 64 bits. -/
theorem DigAt.rest {u v n1 Q : Nat} (d : DigAt u v n1 Q) (hu : u < v) (hn : n1 < 4294967296) (hv : v < 18446744073709551616) :
    Q < 4294967296 ∧ ((((u : Int) * 4294967296 % 18446744073709551616 + n1) % 18446744073709551616 - (Q : Int) * v % 18446744073709551616) % 18446744073709551616 = (((u * 4294967296 + n1) % v : Nat) : Int)) ∧ (u * 4294967296 + n1) % v < v := by
  have hl := digit_lt u v n1 hn hu
  have hr := rest_is u v n1
  have hm := Nat.mod_lt (u * 4294967296 + n1) (show 0 < v by omega)
  have hd := Nat.div_mul_le_self (u * 4294967296 + n1) v
  unfold DigAt at d
  rw [← d] at hr hl hd
  refine ⟨hl, ?_, hm⟩
  generalize (u * 4294967296 + n1) % v = r at *
  have e : (Q : Int) * v = ((Q * v : Nat) : Int) := (Int.natCast_mul Q v).symm
  rw [e]
  generalize Q * v = k at *
  omega

end Go.Proofs.Ytleceelemogbcaa.NumA
