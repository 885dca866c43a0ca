/- Package skill: sum, Chance. -/
import Derived.Test.YtleceelemogbcaaSkA
namespace Go.Proofs.Ytleceelemogbcaa
open Go.RowKit

/-- The sum of the first ones. -/
def sumTo (f : Nat → Int) : Nat → Int
  | 0 => 0
  | k + 1 => sumTo f k + f k

theorem sumTo_bd {f : Nat → Int} {M : Int} {n : Nat} (h : ∀ j, j < n → 0 ≤ f j ∧ f j ≤ M) : ∀ k, k ≤ n → 0 ≤ sumTo f k ∧ sumTo f k ≤ M * k
  | 0, _ => by simp [sumTo]
  | k + 1, hk => by
    obtain ⟨a, b⟩ := sumTo_bd h k (by omega)
    obtain ⟨c, d⟩ := h k (by omega)
    have e : M * ((k + 1 : Nat) : Int) = M * k + M := by rw [Int.natCast_add, Int.mul_add]; simp
    rw [e]
    simp only [sumTo]
    omega

/-- The sum of counts. -/
def sumI (xs : List Int) : Int := sumTo (nth xs) xs.length

theorem countB_bd {xs : List Int} (h : countB xs = true) : ∀ j, j < xs.length → 0 ≤ nth xs j ∧ nth xs j ≤ 1000000 :=
  fun _ hj => ((countB_iff xs).1 h).2 _ (getD_mem hj)

theorem sum_bd {xs : List Int} (hn : xs.length ≤ 49) (h : ∀ j, j < xs.length → 0 ≤ nth xs j ∧ nth xs j ≤ 1000000) : 0 ≤ sumI xs ∧ sumI xs ≤ 49000000 := by
  obtain ⟨a, b⟩ := sumTo_bd h xs.length (Nat.le_refl _)
  unfold sumI
  omega

set_option maxHeartbeats 1000000 in
theorem sum_c (xs : List Int) (v : Value) (w : World) (hv : Ints w v xs) (hn : xs.length ≤ 49) (h : ∀ j, j < xs.length → 0 ≤ nth xs j ∧ nth xs j ≤ 1000000) :
    Calls Try.prog 40 #[v] w fun e w' => e = .returned (.int .i64 (sumI xs)) ∧ w = w' := by
  rcases hv with ⟨q, cap, rfl, rfl⟩ | ⟨b, off, cap, rfl, h0, h1, h2, h3⟩
  · go_enter Try.func40, Try.ntmps40
    go_wp2_with fail
    go_loop [3, 5, 8] (fun n _ i => i = .int .i64 0 ∧ n = .int .i64 0) (fun _ _ _ => 0)
    case atStart => exact ⟨rfl, rfl⟩
    case round =>
      obtain ⟨rfl, rfl⟩ := hrel
      go_wp2_with fail
      go_ret
      exact ⟨rfl, rfl⟩
  · have H2 : Hid (∀ i, i < xs.length → w.cell? ⟨b, off + i, none⟩ = some (.int .i64 (nth xs i))) := h2
    have HB : Hid (∀ k, k ≤ xs.length → 0 ≤ sumTo (nth xs) k ∧ sumTo (nth xs) k ≤ 1000000 * k) := sumTo_bd h
    have HX : Hid (∀ j, j < xs.length → 0 ≤ nth xs j ∧ nth xs j ≤ 1000000) := h
    have HS : Hid (sumI xs = sumTo (nth xs) xs.length) := rfl
    clear h2 h3 h
    generalize xs.length = n at *
    go_enter Try.func40, Try.ntmps40
    go_wp2_with fail
    go_loop [3, 5, 8] (fun s _ i => ∃ k : Nat, k ≤ n ∧ i = .int .i64 k ∧ s = .int .i64 (sumTo (nth xs) k)) (fun _ _ i => n - (intOf i).toNat)
    case atStart => exact ⟨0, Nat.zero_le _, rfl, rfl⟩
    case round =>
      obtain ⟨k, hk, rfl, rfl⟩ := hrel
      obtain ⟨b1, b2⟩ := HB.out k hk
      by_cases hlt : k < n
      · have hc := H2.out k hlt
        obtain ⟨x1, x2⟩ := HX.out k hlt
        have HE : Hid (sumTo (nth xs) (k + 1) = sumTo (nth xs) k + nth xs k) := rfl
        generalize sumTo (nth xs) k = s at *
        generalize nth xs k = x at *
        go_wp2_with fail
        go_round
        case rel => exact ⟨k + 1, by omega, by go_num, by rw [HE.out]⟩
        case measure => simp [intOf]; omega
      · obtain rfl : k = n := by omega
        generalize sumTo (nth xs) k = s at *
        go_wp2_with fail
        go_ret
        exact ⟨ret_i64 HS.out.symm, rfl⟩
end Go.Proofs.Ytleceelemogbcaa
