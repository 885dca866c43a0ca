/- Contracts of math/bits: Mul64, Add64, Sub64, Len64, LeadingZeros64. -/
import Derived.Test.YtleceelemogbcaaProg
import Derived.WalkKit
import Derived.WalkSpells
import Derived.WalkLawsBesides
import Derived.Lib.Mul64
import Derived.Lib.BitFns
import Derived.Lib.Strings
import Derived.Lib.Slices
import Derived.Lib.Small
import Derived.Lib.Walk
import Derived.Laws.Bits64b
import Derived.Laws.Externs
namespace Go.Proofs.Ytleceelemogbcaa
open Go.RowKit

namespace MulN
theorem maskN (a : Nat) (ha : a < 18446744073709551616) : bits .and .u64 (a : Int) 4294967295 = ((a % 4294967296 : Nat) : Int) := by
  have h := bits_and_u64_nat a 4294967295 ha (by omega)
  have e : a &&& 4294967295 = a % 4294967296 := Nat.and_two_pow_sub_one_eq_mod a 32
  rw [e] at h
  exact h
theorem divN (a : Nat) : (a : Int) / 4294967296 = ((a / 4294967296 : Nat) : Int) := by omega
theorem mulN (a b : Nat) : (a : Int) * (b : Int) = ((a * b : Nat) : Int) := (Int.natCast_mul a b).symm
theorem addN (a b : Nat) : (a : Int) + (b : Int) = ((a + b : Nat) : Int) := (Int.natCast_add a b).symm
theorem wrapN (a : Nat) (ha : a < 18446744073709551616) : IntKind.u64.wrap (a : Int) = (a : Int) := by rw [IntKind.wrap_u64]; omega
theorem wrapM (a : Nat) : IntKind.u64.wrap (a : Int) = ((a % 18446744073709551616 : Nat) : Int) := by rw [IntKind.wrap_u64]; omega
end MulN

set_option maxHeartbeats 1000000 in
theorem mul64_nat (x y : Nat) (hx : x < 18446744073709551616) (hy : y < 18446744073709551616) (w : World) :
    Calls Try.prog 95 #[.int .u64 x, .int .u64 y] w fun e w' => e = .returned (.tuple #[.int .u64 ((x * y / 18446744073709551616 : Nat) : Int), .int .u64 ((x * y % 18446744073709551616 : Nat) : Int)]) ∧ w = w' := by
  obtain ⟨bd, bt, bw, hhi⟩ := Lib.mul64_hi x y hx hy
  have ba := Lib.half_mul_le (a := x / 4294967296) (b := y / 4294967296) (by omega) (by omega)
  have bb := Lib.half_mul_le (a := x / 4294967296) (b := y % 4294967296) (by omega) (by omega)
  have bc := Lib.half_mul_le (a := x % 4294967296) (b := y / 4294967296) (by omega) (by omega)
  have ba' : x / 4294967296 * (y / 4294967296) < 18446744073709551616 := by omega
  have bb' : x / 4294967296 * (y % 4294967296) < 18446744073709551616 := by omega
  have bc' : x % 4294967296 * (y / 4294967296) < 18446744073709551616 := by omega
  have bh1 : x / 4294967296 * (y / 4294967296) + (x / 4294967296 * (y % 4294967296) + x % 4294967296 * (y % 4294967296) / 4294967296) / 4294967296 < 18446744073709551616 := by omega
  have bh : x / 4294967296 * (y / 4294967296) + (x / 4294967296 * (y % 4294967296) + x % 4294967296 * (y % 4294967296) / 4294967296) / 4294967296 + ((x / 4294967296 * (y % 4294967296) + x % 4294967296 * (y % 4294967296) / 4294967296) % 4294967296 + x % 4294967296 * (y / 4294967296)) / 4294967296 < 18446744073709551616 := by omega
  go_enter Try.func95, Try.ntmps95
  go_wp2
  simp only [MulN.maskN x hx, MulN.maskN y hy, MulN.divN, MulN.mulN, MulN.addN, MulN.wrapN _ bd, MulN.wrapN _ bb', MulN.wrapN _ bt, MulN.maskN _ bt, MulN.wrapN _ bc', MulN.wrapN _ bw, MulN.wrapN _ ba', MulN.wrapN _ bh1, MulN.wrapN _ bh, MulN.wrapM (x * y)]
  rw [hhi]
  go_ret2
  exact ⟨rfl, rfl⟩

/-- A word of 64 bits. -/
def Word (x : Int) : Prop := 0 ≤ x ∧ x < 18446744073709551616

/-- math/bits.Mul64. -/
theorem mul64 (x y : Int) (hx : Word x) (hy : Word y) (w : World) :
    Calls Try.prog 95 #[.int .u64 x, .int .u64 y] w fun e w' => e = .returned (.tuple #[.int .u64 (x * y / 18446744073709551616), .int .u64 (x * y % 18446744073709551616)]) ∧ w = w' := by
  obtain ⟨h1, h2⟩ := hx; obtain ⟨h3, h4⟩ := hy
  obtain ⟨x, rfl⟩ := Int.eq_ofNat_of_zero_le h1
  obtain ⟨y, rfl⟩ := Int.eq_ofNat_of_zero_le h3
  exact mul64_nat x y (by omega) (by omega) w

theorem add64 (x y c : Int) (hx : 0 ≤ x) (hy : 0 ≤ y) (hc0 : 0 ≤ c) (hc : c ≤ 1) (w : World) : (callFunc 98 #[.int .u64 x, .int .u64 y, .int .u64 c]).run Try.prog w =
    .ok (.value (.tuple #[.int .u64 ((x + y + c) % 18446744073709551616), .int .u64 ((x + y + c) / 18446744073709551616)])) w := by
  rw [run_callFunc_extern Try.func98 (by kernel_rfl) (by kernel_rfl) (by kernel_rfl) (e := add64Entry) (by kernel_rfl), run_add64 x y c hx hy hc0 hc]
  rfl
theorem add64_0 (x y : Int) (hx : 0 ≤ x) (hy : 0 ≤ y) (w : World) : (callFunc 98 #[.int .u64 x, .int .u64 y, .int .u64 0]).run Try.prog w =
    .ok (.value (.tuple #[.int .u64 ((x + y) % 18446744073709551616), .int .u64 ((x + y) / 18446744073709551616)])) w := by
  simpa using add64 x y 0 hx hy (Int.le_refl 0) (by decide) w

theorem len8_idx (i : Int) (h0 : 0 ≤ i) (h1 : i ≤ 255) (h : i.toNat < Lib.len8tab.size) : ((Lib.len8tab[i.toNat]'h).toNat : Int) = Lib.bitLen i.toNat := by
  have e := Lib.len8_eq ⟨i.toNat, by omega⟩
  simp only [Int.toNat_of_nonneg h0, Lib.len8, ByteArray.getElem?_lt' _ _ h, Option.getD_some] at e
  exact e

theorem len_fin (x i k : Int) (h0 : 0 ≤ i) (h1 : i ≤ 255) (h : i.toNat < Lib.len8tab.size) (hk0 : 0 ≤ k) (hk1 : k ≤ 56) (hk : (Lib.bitLen x.toNat : Int) = k + Lib.bitLen i.toNat) :
    wrap64 (k + wrap64 ((Lib.len8tab[i.toNat]'h).toNat : Int)) = Lib.bitLen x.toNat := by
  have l := Lib.bitLen_le8' i h0 h1
  rw [len8_idx i h0 h1 h, hk]
  unfold wrap64
  omega

theorem len_fin0 (x : Int) (h0 : 0 ≤ x) (h1 : x ≤ 255) (h : x.toNat < Lib.len8tab.size) :
    wrap64 (wrap64 ((Lib.len8tab[x.toNat]'h).toNat : Int)) = Lib.bitLen x.toNat := by
  have l := Lib.bitLen_le8' x h0 h1
  rw [len8_idx x h0 h1 h]
  unfold wrap64
  omega

set_option maxHeartbeats 4000000 in
set_option maxRecDepth 100000 in
theorem len64 (x : Int) (w : World) (h0 : 0 ≤ x) (h1 : x ≤ 18446744073709551615) :
    Calls Try.prog 103 #[.int .u64 x] w fun e w' => e = .returned (.int .i64 (Lib.bitLen x.toNat)) ∧ w = w' := by
  have hsz := Lib.len8tab_size
  go_enter Try.func103, Try.ntmps103
  go_wp2
  all_goals (go_ret; refine ⟨congrArg Ending.returned (congrArg (Value.int IntKind.i64) ?_), rfl⟩)
  all_goals first
    | exact len_fin x (x / 4294967296 / 65536 / 256) 56 (by omega) (by omega) _ (by omega) (by omega) (by have s := Lib.bitLen_shift56 x.toNat (by omega) (by omega); have e : (x / 4294967296 / 65536 / 256).toNat = x.toNat / 72057594037927936 := (by omega); rw [e]; omega)
    | exact len_fin x (x / 4294967296 / 65536) 48 (by omega) (by omega) _ (by omega) (by omega) (by have s := Lib.bitLen_shift48 x.toNat (by omega) (by omega); have e : (x / 4294967296 / 65536).toNat = x.toNat / 281474976710656 := (by omega); rw [e]; omega)
    | exact len_fin x (x / 4294967296 / 256) 40 (by omega) (by omega) _ (by omega) (by omega) (by have s := Lib.bitLen_shift40 x.toNat (by omega) (by omega); have e : (x / 4294967296 / 256).toNat = x.toNat / 1099511627776 := (by omega); rw [e]; omega)
    | exact len_fin x (x / 4294967296) 32 (by omega) (by omega) _ (by omega) (by omega) (by have s := Lib.bitLen_shift32 x.toNat (by omega) (by omega); have e : (x / 4294967296).toNat = x.toNat / 4294967296 := (by omega); rw [e]; omega)
    | exact len_fin x (x / 65536 / 256) 24 (by omega) (by omega) _ (by omega) (by omega) (by have s := Lib.bitLen_shift24 x.toNat (by omega) (by omega); have e : (x / 65536 / 256).toNat = x.toNat / 16777216 := (by omega); rw [e]; omega)
    | exact len_fin x (x / 65536) 16 (by omega) (by omega) _ (by omega) (by omega) (by have s := Lib.bitLen_shift16 x.toNat (by omega) (by omega); have e : (x / 65536).toNat = x.toNat / 65536 := (by omega); rw [e]; omega)
    | exact len_fin x (x / 256) 8 (by omega) (by omega) _ (by omega) (by omega) (by have s := Lib.bitLen_shift8 x.toNat (by omega) (by omega); have e : (x / 256).toNat = x.toNat / 256 := (by omega); rw [e]; omega)
    | exact len_fin0 x (by omega) (by omega) _

/-- bitLen brackets its number. -/
theorem bitLen_spec : ∀ (f x : Nat), 0 < x → x < 2 ^ f → 0 < Lib.bitLenAux f x ∧ Lib.bitLenAux f x ≤ f ∧ 2 ^ (Lib.bitLenAux f x - 1) ≤ x ∧ x < 2 ^ Lib.bitLenAux f x
  | 0, x, h, hx => by simp at hx; omega
  | f + 1, x, h, hx => by
    simp only [Lib.bitLenAux]
    rw [if_neg (by omega)]
    by_cases h2 : x / 2 = 0
    · have hx1 : x = 1 := by omega
      subst hx1
      cases f with
      | zero => simp [Lib.bitLenAux]
      | succ f => simp [Lib.bitLenAux]
    · obtain ⟨a, b, c, d⟩ := bitLen_spec f (x / 2) (by omega) (by rw [Nat.pow_succ] at hx; omega)
      generalize Lib.bitLenAux f (x / 2) = k at *
      obtain ⟨j, rfl⟩ : ∃ j, k = j + 1 := ⟨k - 1, by omega⟩
      have e1 : 1 + (j + 1) = (j + 1) + 1 := by omega
      rw [e1, Nat.add_sub_cancel, Nat.pow_succ 2 (j + 1), Nat.pow_succ 2 j] at *
      exact ⟨by omega, by omega, by omega, by omega⟩

theorem lead_fin (n k : Nat) (b : k ≤ 64) (a : 0 < k) (c : 2 ^ (k - 1) ≤ n) (d : n < 2 ^ k) : 64 - k ≤ 63 ∧ 2 ^ 63 ≤ n * 2 ^ (64 - k) ∧ n * 2 ^ (64 - k) < 2 ^ 64 := by
  have p1 : 2 ^ (k - 1) * 2 ^ (64 - k) = 2 ^ 63 := by
    rw [← Nat.pow_add, show k - 1 + (64 - k) = 63 by omega]
  have p2 : 2 ^ k * 2 ^ (64 - k) = 2 ^ 64 := by
    rw [← Nat.pow_add, show k + (64 - k) = 64 by omega]
  have q1 := Nat.mul_le_mul_right (2 ^ (64 - k)) c
  have q2 := Nat.mul_lt_mul_of_pos_right d (Nat.two_pow_pos (64 - k))
  rw [p1] at q1
  rw [p2] at q2
  exact ⟨by omega, q1, q2⟩

/-- math/bits.LeadingZeros64, of a number above 0. -/
theorem lead64 (n : Nat) (w : World) (h0 : 0 < n) (h1 : n < 18446744073709551616) :
    Calls Try.prog 101 #[.int .u64 n] w fun e w' => (∃ s : Nat, e = .returned (.int .i64 s) ∧ s ≤ 63 ∧ 2 ^ 63 ≤ n * 2 ^ s ∧ n * 2 ^ s < 2 ^ 64) ∧ w = w' := by
  obtain ⟨a, b, c, d⟩ := bitLen_spec 64 n h0 (by have : (2:Nat) ^ 64 = 18446744073709551616 := by decide
                                                 omega)
  have hf := lead_fin n _ b a c d
  have hb : Lib.bitLen n ≤ 64 := b
  have hs : (64 - Lib.bitLen n : Int) = ((64 - Lib.bitLen n : Nat) : Int) := by omega
  have hf' : 64 - Lib.bitLen n ≤ 63 ∧ 2 ^ 63 ≤ n * 2 ^ (64 - Lib.bitLen n) ∧ n * 2 ^ (64 - Lib.bitLen n) < 2 ^ 64 := hf
  clear a b c d hf
  go_enter Try.func101, Try.ntmps101
  go_wp2_with (go_at_call 103; refine (len64 _ _ (by omega) (by omega)).mono ?_; rintro e w' ⟨rfl, rfl⟩; rw [Int.toNat_natCast])
  go_ret
  exact ⟨⟨_, rfl, hf'⟩, rfl⟩
end Go.Proofs.Ytleceelemogbcaa
