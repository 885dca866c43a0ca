/- Contracts of package fixed: size, signed, ways, right, quotient. -/
import Derived.Test.YtleceelemogbcaaFixD
namespace Go.Proofs.Ytleceelemogbcaa
open Go.RowKit NumA

/-- The size of a number. -/
def absI (x : Int) : Int := if x < 0 then -x else x

theorem absI_word {x : Int} (h0 : -9223372036854775808 ≤ x) (h1 : x ≤ 9223372036854775807) : Word (absI x) := by unfold Word absI; split <;> omega

theorem ret_u64 {a b : Int} (h : a = b) : Ending.returned (.int .u64 a) = .returned (.int .u64 b) := by rw [h]
theorem ret_i64 {a b : Int} (h : a = b) : Ending.returned (.int .i64 a) = .returned (.int .i64 b) := by rw [h]

theorem size_c (x : Int) (w : World) (h0 : -9223372036854775808 ≤ x) (h1 : x ≤ 9223372036854775807) :
    Calls Try.prog 83 #[.int .i64 x] w fun e w' => e = .returned (.int .u64 (absI x)) ∧ w = w' := by
  by_cases hx : x < 0
  · go_enter Try.func83, Try.ntmps83
    go_wp2
    go_ret
    exact ⟨ret_u64 (by simp only [IntKind.wrap_u64]; unfold absI; rw [if_pos (by omega)]; omega), rfl⟩
  · go_enter Try.func83, Try.ntmps83
    go_wp2
    go_ret
    exact ⟨ret_u64 (by unfold absI; rw [if_neg (by omega)]), rfl⟩

theorem sizeInt_c (x : Int) (w : World) (h0 : -9223372036854775808 ≤ x) (h1 : x ≤ 9223372036854775807) :
    Calls Try.prog 84 #[.int .i64 x] w fun e w' => e = .returned (.int .u64 (absI x)) ∧ w = w' := by
  by_cases hx : x < 0
  · go_enter Try.func84, Try.ntmps84
    go_wp2
    go_ret
    exact ⟨ret_u64 (by simp only [IntKind.wrap_u64]; unfold absI; rw [if_pos (by omega)]; omega), rfl⟩
  · go_enter Try.func84, Try.ntmps84
    go_wp2
    go_ret
    exact ⟨ret_u64 (by unfold absI; rw [if_neg (by omega)]), rfl⟩

/-- A size with a sign. -/
def sgn (n : Int) (neg : Bool) : Int := if neg then -n else n

theorem signed_yes (n : Int) (neg : Bool) (w : World) (h0 : 0 ≤ n) (h1 : n ≤ 70368744177664) :
    Calls Try.prog 94 #[.int .u64 n, .bool neg] w fun e w' => e = .returned (.int .i64 (sgn n neg)) ∧ w = w' := by
  have hd : decide (n ≤ 70368744177664) = true := by simpa using h1
  cases neg
  all_goals
    go_enter Try.func94, Try.ntmps94
    go_wp2_with (go_at_call 80; refine (need_yes _ _).mono ?_; rintro e w' ⟨rfl, rfl⟩)
    go_ret
    exact ⟨rfl, rfl⟩

theorem signed_no (n : Int) (neg : Bool) (w : World) (h1 : 70368744177664 < n) :
    Calls Try.prog 94 #[.int .u64 n, .bool neg] w fun e w' => e = .panicked (fixPanic 4) ∧ w = w' := by
  have hd : decide (n ≤ 70368744177664) = false := by simp only [decide_eq_false_iff_not]; omega
  go_enter Try.func94, Try.ntmps94
  go_wp2_with (go_at_call 80; refine (need_no _ _).mono ?_; rintro e w' ⟨rfl, rfl⟩)
  exact ⟨rfl, rfl, rfl⟩

/-- Whether a size is rounded to the next one: half compares twice the rest with the divisor. -/
def rndB (how half : Int) (neg : Bool) : Bool := if how = 0 then false else if how = 1 then neg else if how = 2 then !neg else decide (0 ≤ half)

theorem way0 (half : Int) (neg : Bool) (w : World) : Calls Try.prog 87 #[.int .i64 half, .bool neg] w fun e w' => e = .returned (.bool (rndB 0 half neg)) ∧ w = w' := by
  go_enter Try.func87, Try.ntmps87
  go_wp2
  go_ret
  exact ⟨rfl, rfl⟩
theorem way1 (half : Int) (neg : Bool) (w : World) : Calls Try.prog 88 #[.int .i64 half, .bool neg] w fun e w' => e = .returned (.bool (rndB 1 half neg)) ∧ w = w' := by
  go_enter Try.func88, Try.ntmps88
  go_wp2
  go_ret
  exact ⟨rfl, rfl⟩
theorem way2 (half : Int) (neg : Bool) (w : World) : Calls Try.prog 89 #[.int .i64 half, .bool neg] w fun e w' => e = .returned (.bool (rndB 2 half neg)) ∧ w = w' := by
  cases neg
  all_goals
    go_enter Try.func89, Try.ntmps89
    go_wp2
    go_ret
    exact ⟨rfl, rfl⟩
theorem way3 (half : Int) (neg : Bool) (w : World) : Calls Try.prog 90 #[.int .i64 half, .bool neg] w fun e w' => e = .returned (.bool (rndB 3 half neg)) ∧ w = w' := by
  go_enter Try.func90, Try.ntmps90
  go_wp2
  go_ret
  exact ⟨rfl, rfl⟩

/-- The function of a way. -/
def wayF (how : Int) : FuncId := if how = 0 then 87 else if how = 1 then 88 else if how = 2 then 89 else 90
/-- A way as a value. -/
def wayV (how : Int) : Value := .func (.func (wayF how)) #[] #[]

theorem wayV_0 : wayV 0 = .func (.func 87) #[] #[] := rfl
theorem wayV_1 : wayV 1 = .func (.func 88) #[] #[] := rfl
theorem wayV_2 : wayV 2 = .func (.func 89) #[] #[] := rfl
theorem wayV_3 : wayV 3 = .func (.func 90) #[] #[] := rfl

def Way (how : Int) : Prop := 0 ≤ how ∧ how ≤ 3

theorem Way.cases {how : Int} (h : Way how) : how = 0 ∨ how = 1 ∨ how = 2 ∨ how = 3 := by unfold Way at h; omega

theorem way_c {how : Int} (hw : Way how) (half : Int) (neg : Bool) (w : World) : Calls Try.prog (wayF how) #[.int .i64 half, .bool neg] w fun e w' => e = .returned (.bool (rndB how half neg)) ∧ w = w' := by
  rcases hw.cases with rfl | rfl | rfl | rfl
  · exact way0 half neg w
  · exact way1 half neg w
  · exact way2 half neg w
  · exact way3 half neg w

theorem ways_yes (how : Int) (w : World) (h : Way how) : Calls Try.prog 79 #[.int .i64 how] w fun e w' => e = .returned (wayV how) ∧ w = w' := by
  rcases h.cases with rfl | rfl | rfl | rfl
  all_goals
    go_enter Try.func79, Try.ntmps79
    go_wp2
    go_ret
    exact ⟨rfl, rfl⟩

theorem ways_no (how : Int) (w : World) (h : ¬ Way how) : Calls Try.prog 79 #[.int .i64 how] w fun e w' => e = .panicked (fixPanic 2) ∧ w = w' := by
  unfold Way at h
  have h0 : (how == 0) = false := by simp only [beq_eq_false_iff_ne]; omega
  have h1 : (how == 1) = false := by simp only [beq_eq_false_iff_ne]; omega
  have h2 : (how == 2) = false := by simp only [beq_eq_false_iff_ne]; omega
  have h3 : (how == 3) = false := by simp only [beq_eq_false_iff_ne]; omega
  clear h
  go_enter Try.func79, Try.ntmps79
  go_wp2
  exact ⟨rfl, rfl, rfl⟩

/-- Is a number valid? -/
def okFix (x : Int) : Prop := -70368744177664 ≤ x ∧ x ≤ 70368744177664
instance (x : Int) : Decidable (okFix x) := inferInstanceAs (Decidable (_ ∧ _))

theorem right_yes (b n : Nat) (x : Nat → Int) (w : World) (hn : n ≤ 8) (hc : ∀ k, k < n → w.cell? ⟨b, k, none⟩ = some (.int .i64 (x k))) (hx : ∀ k, k < n → okFix (x k)) :
    Calls Try.prog 78 #[.slice (some ⟨b, 0, none⟩) n n] w fun e w' => e = .returned (.tuple #[]) ∧ w = w' := by
  have HX := hx
  go_enter Try.func78, Try.ntmps78
  go_wp2_with fail
  go_loop [3, 6] (fun _ i => ∃ k : Nat, k ≤ n ∧ i = .int .i64 k) (fun _ i => n - (intOf i).toNat)
  case atStart => exact ⟨0, Nat.zero_le _, rfl⟩
  case round =>
    obtain ⟨k, hk, rfl⟩ := hrel
    by_cases hlt : k < n
    · have hck := hc k hlt
      obtain ⟨g1, g2⟩ := hx k hlt
      have g1' : decide ((-70368744177664 : Int) ≤ x k) = true := by simpa using g1
      have g2' : decide (x k ≤ (70368744177664 : Int)) = true := by simpa using g2
      clear hc hx HX
      go_wp2_with (go_at_call 80; refine (need_yes _ _).mono ?_; rintro e w' ⟨rfl, rfl⟩)
      go_round
      case rel => exact ⟨k + 1, by omega, by go_num⟩
      case measure => simp [intOf]; omega
    · clear hc hx HX
      go_wp2_with fail
      go_end0
      exact ⟨rfl, rfl⟩

theorem right_no (b n : Nat) (x : Nat → Int) (w : World) (hn : n ≤ 8) (hc : ∀ k, k < n → w.cell? ⟨b, k, none⟩ = some (.int .i64 (x k))) (hx : ∃ k, k < n ∧ ¬ okFix (x k)) :
    Calls Try.prog 78 #[.slice (some ⟨b, 0, none⟩) n n] w fun e w' => e = .panicked (fixPanic 2) ∧ w = w' := by
  obtain ⟨m, hm, hxm⟩ := hx
  go_enter Try.func78, Try.ntmps78
  go_wp2_with fail
  go_loop [3, 6] (fun _ i => ∃ k : Nat, k ≤ m ∧ i = .int .i64 k) (fun _ i => n - (intOf i).toNat)
  case atStart => exact ⟨0, Nat.zero_le _, rfl⟩
  case round =>
    obtain ⟨k, hk, rfl⟩ := hrel
    have hlt : k < n := by omega
    have hck := hc k hlt
    by_cases hok : okFix (x k)
    · have hkm : k < m := by
        rcases Nat.lt_or_ge k m with h | h
        · exact h
        · have e : k = m := by omega
          rw [e] at hok; exact absurd hok hxm
      obtain ⟨g1, g2⟩ := hok
      have g1' : decide ((-70368744177664 : Int) ≤ x k) = true := by simpa using g1
      have g2' : decide (x k ≤ (70368744177664 : Int)) = true := by simpa using g2
      clear hc hxm
      go_wp2_with (go_at_call 80; refine (need_yes _ _).mono ?_; rintro e w' ⟨rfl, rfl⟩)
      go_round
      case rel => exact ⟨k + 1, by omega, by go_num⟩
      case measure => simp [intOf]; omega
    · clear hc hxm
      unfold okFix at hok
      by_cases g1 : (-70368744177664 : Int) ≤ x k
      · have g2' : decide (x k ≤ (70368744177664 : Int)) = false := by simp only [decide_eq_false_iff_not]; omega
        have g1' : decide ((-70368744177664 : Int) ≤ x k) = true := by simpa using g1
        clear hok
        go_wp2_with (go_at_call 80; refine (need_no _ _).mono ?_; rintro e w' ⟨rfl, rfl⟩)
        exact ⟨rfl, rfl, rfl⟩
      · have g1' : decide ((-70368744177664 : Int) ≤ x k) = false := by simp only [decide_eq_false_iff_not]; exact g1
        clear hok
        go_wp2_with (go_at_call 80; refine (need_no _ _).mono ?_; rintro e w' ⟨rfl, rfl⟩)
        exact ⟨rfl, rfl, rfl⟩
end Go.Proofs.Ytleceelemogbcaa
