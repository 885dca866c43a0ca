/- Package skill: within, counted, event, sum, Chance. -/
import Derived.Test.YtleceelemogbcaaInts
namespace Go.Proofs.Ytleceelemogbcaa
open Go.RowKit

/-- Is a number from one to another one? -/
def wB (n lo hi : Int) : Bool := decide (lo ≤ n) && decide (n ≤ hi)

theorem wB_iff (n lo hi : Int) : wB n lo hi = true ↔ lo ≤ n ∧ n ≤ hi := by simp [wB]

theorem within_c (n lo hi : Int) (w : World) : Calls Try.prog 25 #[.int .i64 n, .int .i64 lo, .int .i64 hi] w fun e w' => e = .returned (.bool (wB n lo hi)) ∧ w = w' := by
  unfold wB
  cases h1 : decide (lo ≤ n) <;> cases h2 : decide (n ≤ hi)
  all_goals
    go_enter Try.func25, Try.ntmps25
    go_wp2
    go_ret
    exact ⟨rfl, rfl⟩

theorem withinFix_c (n lo hi : Int) (w : World) : Calls Try.prog 36 #[.int .i64 n, .int .i64 lo, .int .i64 hi] w fun e w' => e = .returned (.bool (wB n lo hi)) ∧ w = w' := by
  unfold wB
  cases h1 : decide (lo ≤ n) <;> cases h2 : decide (n ≤ hi)
  all_goals
    go_enter Try.func36, Try.ntmps36
    go_wp2
    go_ret
    exact ⟨rfl, rfl⟩

theorem counted1_c (n : Int) (w : World) : Calls Try.prog 63 #[.int .i64 n] w fun e w' => e = .returned (.bool (!wB n 0 1000000)) ∧ w = w' := by
  cases h : wB n 0 1000000
  all_goals
    have H : Hid (wB n 0 1000000 = _) := h
    clear h
    go_enter Try.func63, Try.ntmps63
    go_wp2_with (go_at_call 25; refine (within_c _ _ _ _).mono ?_; rintro e w' ⟨rfl, rfl⟩; rw [H.out])
    go_ret
    exact ⟨rfl, rfl⟩

theorem counted1_pure (xs : List Int) : PureFn 63 #[] xs (fun n => !wB n 0 1000000) :=
  ⟨enters_of Try.func63 (by kernel_rfl) rfl, fun x _ w => counted1_c x w⟩

/-- Are counts valid? -/
def countB (xs : List Int) : Bool := wB xs.length 1 49 && !(xs.any fun n => !wB n 0 1000000)

theorem countB_iff (xs : List Int) : countB xs = true ↔ (1 ≤ xs.length ∧ xs.length ≤ 49) ∧ ∀ n ∈ xs, 0 ≤ n ∧ n ≤ 1000000 := by
  unfold countB
  rw [Bool.and_eq_true, wB_iff, Bool.not_eq_true', List.any_eq_false]
  constructor
  · rintro ⟨h1, h2⟩
    refine ⟨by omega, fun n hn => ?_⟩
    have := h2 n hn
    rw [Bool.not_eq_true', Bool.not_eq_false] at this
    exact (wB_iff _ _ _).1 this
  · rintro ⟨h1, h2⟩
    refine ⟨by omega, fun n hn => ?_⟩
    rw [Bool.not_eq_true', Bool.not_eq_false]
    exact (wB_iff _ _ _).2 (h2 n hn)

/-- One more of which something is known. -/
theorem upto_succ {P : Nat → Prop} {k : Nat} (h : ∀ j, j < k → P j) (hk : P k) : ∀ j, j < k + 1 → P j := by
  intro j hj
  rcases Nat.lt_or_ge j k with h' | h'
  · exact h j h'
  · obtain rfl : j = k := by omega
    exact hk

theorem Ints.shape {w : World} {v : Value} {xs : List Int} (h : Ints w v xs) : ∃ p cap, v = .slice p xs.length cap := by
  rcases h with ⟨p, cap, rfl, rfl⟩ | ⟨b, off, cap, rfl, _⟩
  · exact ⟨p, cap, rfl⟩
  · exact ⟨_, _, rfl⟩

theorem counted_c (xs : List Int) (v : Value) (w : World) (hv : Ints w v xs) :
    Calls Try.prog 38 #[v] w fun e w' => e = .returned (.bool (countB xs)) ∧ w = w' := by
  unfold countB
  have HV : Hid (Ints w v xs) := hv
  obtain ⟨p, cap, rfl⟩ := hv.shape
  have hl := hv.len_le
  clear hv
  cases h1 : wB xs.length 1 49 <;> cases h2 : xs.any fun n => !wB n 0 1000000
  all_goals
    have H1 : Hid (wB xs.length 1 49 = _) := h1
    have H2 : Hid ((xs.any fun n => !wB n 0 1000000) = _) := h2
    clear h1 h2
    go_enter Try.func38, Try.ntmps38
    go_wp2_with (first
      | (go_at_call 25; refine (within_c _ _ _ _).mono ?_; rintro e w' ⟨rfl, rfl⟩; rw [H1.out])
      | (go_at_call 62; refine (containsFunc_c 63 #[] xs _ _ _ (counted1_pure xs) HV.out).mono ?_; rintro e w' ⟨rfl, rfl⟩; rw [H2.out]))
    go_ret
    exact ⟨rfl, rfl⟩

/-- Is something wrong with an outcome of an event? -/
def evBad (xs : List Int) (many : Int) (i : Nat) : Bool := !wB (nth xs i) 0 (many - 1) || (decide (0 < i) && decide (nth xs i ≤ nth xs (i - 1)))
/-- Is an event valid? -/
def evB (xs : List Int) (many : Int) : Bool := !((List.range xs.length).any (evBad xs many))

theorem evB_true {xs : List Int} {many : Int} (h : ∀ j, j < xs.length → evBad xs many j = false) : evB xs many = true := by
  unfold evB
  simp only [Bool.not_eq_true', List.any_eq_false, List.mem_range, Bool.not_eq_true]
  exact h
theorem evB_false {xs : List Int} {many : Int} (j : Nat) (hj : j < xs.length) (h : evBad xs many j = true) : evB xs many = false := by
  unfold evB
  simp only [Bool.not_eq_false', List.any_eq_true, List.mem_range]
  exact ⟨j, hj, h⟩

set_option maxHeartbeats 1000000 in
theorem event_c (xs : List Int) (many : Int) (v : Value) (w : World) (hv : Ints w v xs) (hm0 : 0 ≤ many) (hm1 : many ≤ 9223372036854775807) :
    Calls Try.prog 39 #[v, .int .i64 many] w fun e w' => e = .returned (.bool (evB xs many)) ∧ w = w' := by
  rcases hv with ⟨q, cap, rfl, rfl⟩ | ⟨b, off, cap, rfl, h0, h1, h2, h3⟩
  · go_enter Try.func39, Try.ntmps39
    go_wp2_with fail
    go_loop [5, 6, 9] (fun _ _ i => i = .int .i64 0) (fun _ _ _ => 0)
    case atStart => rfl
    case round =>
      subst hrel
      go_wp2_with fail
      go_ret
      exact ⟨rfl, rfl⟩
  · have H2 : Hid (∀ i, i < xs.length → w.cell? ⟨b, off + i, none⟩ = some (.int .i64 (nth xs i))) := h2
    clear h2 h3
    generalize hn : xs.length = n at *
    have HN : Hid (xs.length = n) := hn
    clear hn
    go_enter Try.func39, Try.ntmps39
    go_wp2_with fail
    go_loop [5, 6, 9] (fun _ _ i => ∃ k : Nat, k ≤ n ∧ i = .int .i64 k ∧ Hid (∀ j, j < k → evBad xs many j = false)) (fun _ _ i => n - (intOf i).toNat)
    case atStart => exact ⟨0, Nat.zero_le _, rfl, fun j hj => by omega⟩
    case round =>
      obtain ⟨k, hk, rfl, hno⟩ := hrel
      by_cases hlt : k < n
      · have hc := H2.out k hlt
        have hcp := fun (h : 0 < k) => H2.out (k - 1) (by omega)
        have HE : Hid (evBad xs many k = (!wB (nth xs k) 0 (many - 1) || (decide (0 < k) && decide (nth xs k ≤ nth xs (k - 1))))) := rfl
        generalize hx : nth xs k = x at *
        generalize hy : nth xs (k - 1) = y at *
        clear hx hy
        cases hw : wB x 0 (many - 1)
        · have HW : Hid (wB x 0 (many - 1) = false) := hw
          have HF : Hid (evBad xs many k = true) := by show _ = _; rw [HE.out, HW.out]; rfl
          clear hw hcp HE
          go_wp2_with (go_at_call 25; refine (within_c _ _ _ _).mono ?_; rintro e w' ⟨rfl, rfl⟩; rw [HW.out])
          go_ret
          exact ⟨by rw [evB_false k (by rw [HN.out]; exact hlt) HF.out]; rfl, rfl⟩
        · have HW : Hid (wB x 0 (many - 1) = true) := hw
          clear hw
          by_cases hk0 : 0 < k
          · obtain ⟨m, rfl⟩ : ∃ m, k = m + 1 := ⟨k - 1, by omega⟩
            have hcm := hcp hk0
            simp only [Nat.add_sub_cancel] at hcm
            have hd0 : decide ((0 : Int) < ((m + 1 : Nat) : Int)) = true := by simp only [decide_eq_true_eq]; omega
            cases hd : decide (x ≤ y)
            · have HF : Hid (evBad xs many (m + 1) = false) := by show _ = _; rw [HE.out, HW.out, hd]; simp
              clear hcp HE
              go_wp2_with (go_at_call 25; refine (within_c _ _ _ _).mono ?_; rintro e w' ⟨rfl, rfl⟩; rw [HW.out])
              go_round
              case rel => exact ⟨m + 1 + 1, by omega, by go_num, upto_succ hno.out HF.out⟩
              case measure => simp [intOf]; omega
            · have HF : Hid (evBad xs many (m + 1) = true) := by show _ = _; rw [HE.out, HW.out, hd]; simp
              clear hcp HE
              go_wp2_with (go_at_call 25; refine (within_c _ _ _ _).mono ?_; rintro e w' ⟨rfl, rfl⟩; rw [HW.out])
              go_ret
              exact ⟨by rw [evB_false (m + 1) (by rw [HN.out]; exact hlt) HF.out]; rfl, rfl⟩
          · obtain rfl : k = 0 := by omega
            simp only [Nat.add_zero] at hc
            have HF : Hid (evBad xs many 0 = false) := by show _ = _; rw [HE.out, HW.out]; simp
            clear hcp HE
            go_wp2_with (go_at_call 25; refine (within_c _ _ _ _).mono ?_; rintro e w' ⟨rfl, rfl⟩; rw [HW.out])
            go_round
            case rel => exact ⟨1, by omega, by go_num, upto_succ hno.out HF.out⟩
            case measure => simp [intOf]; omega
      · go_wp2_with fail
        go_ret
        exact ⟨by rw [evB_true fun j hj => hno.out j (by have := HN.out; omega)]; rfl, rfl⟩
end Go.Proofs.Ytleceelemogbcaa
