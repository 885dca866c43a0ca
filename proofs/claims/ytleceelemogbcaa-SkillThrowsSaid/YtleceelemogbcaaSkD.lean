/- Package skill: share, the least and the greatest of values, mean, Mean. -/
import Derived.Test.YtleceelemogbcaaSkC
import Derived.Deep.QuietTactic
import Derived.BigQuiet
namespace Go.Proofs.Ytleceelemogbcaa
open Go.RowKit

/-- A quotient, rounded down (1) or up. -/
def rndQ (how a b : Int) : Int := if how = 1 then a / b else -((-a) / b)

/-- What the rest adds. -/
def partQ (how r : Int) : Int := if how = 1 then (if r < 0 then -1 else 0) else (if 0 < r then 1 else 0)

theorem part_scale (r b how : Int) (hh : how = 1 ∨ how = 2) (hb0 : 0 < b) (hb1 : b ≤ 2147483648) (h1 : -b < r) (h2 : r < b) : scaleX r 1 b how = .ok (partQ how r) := by
  have ea : absI 1 = 1 := rfl
  have eb : absI b = b := by unfold absI; rw [if_neg (by omega)]
  unfold scaleX
  rw [ea, eb, Int.mul_one]
  have hr : 0 ≤ absI r ∧ absI r < b := by unfold absI; split <;> omega
  have hz : hiW (absI r) = 0 := by unfold hiW; omega
  have hl : loW (absI r) = absI r := by unfold loW; omega
  rw [hz, hl]
  have hq : quoI 0 (absI r) b = 0 := by unfold quoI; rw [Int.zero_mul, Int.zero_add]; exact Int.ediv_eq_zero_of_lt hr.1 hr.2
  have hm : remI 0 (absI r) b = absI r := by unfold remI; rw [Int.zero_mul, Int.zero_add]; exact Int.emod_eq_of_lt hr.1 hr.2
  have hn : (decide (r < 0) != (decide ((1 : Int) < 0) != decide (b < 0))) = decide (r < 0) := by
    have : decide (b < 0) = false := by simp only [decide_eq_false_iff_not]; omega
    rw [this]; cases decide (r < 0) <;> rfl
  rw [hn]
  have hu : qUp 0 (absI r) b (decide (r < 0)) how = if 0 < absI r ∧ rndB how (halfI (absI r) b) (decide (r < 0)) = true then 1 else 0 := by
    unfold qUp
    rw [hq, hm]
    split <;> rfl
  unfold quot
  rw [if_neg (by omega), hu]
  rcases hh with rfl | rfl
  · have e : rndB 1 (halfI (absI r) b) (decide (r < 0)) = decide (r < 0) := rfl
    rw [e]
    unfold partQ absI sgn
    by_cases hr0 : r < 0
    · simp [hr0]
    · simp [hr0]
  · have e : rndB 2 (halfI (absI r) b) (decide (r < 0)) = !decide (r < 0) := rfl
    rw [e]
    unfold partQ absI sgn
    by_cases hr0 : r < 0
    · simp [hr0]; omega
    · by_cases hr1 : 0 < r
      · simp [hr0, hr1]
      · simp [hr0, hr1]

theorem div_is {x b q : Int} (hb : 0 < b) (h1 : q * b ≤ x) (h2 : x < q * b + b) : x / b = q := by
  have a := (Int.le_ediv_iff_mul_le hb).2 h1
  have c := (Int.ediv_lt_iff_lt_mul hb).2 (show x < (q + 1) * b by rw [Int.add_mul, Int.one_mul]; exact h2)
  omega

theorem part_sum (a b how : Int) (hh : how = 1 ∨ how = 2) (hb0 : 0 < b) : a.tdiv b + partQ how (a.tmod b) = rndQ how a b := by
  have hb : b ≠ 0 := by omega
  rcases Int.lt_or_le a 0 with ha | ha
  · obtain ⟨c, rfl⟩ : ∃ c, a = -c := ⟨-a, by omega⟩
    have hc : 0 ≤ c := by omega
    rw [Int.neg_tdiv, Int.neg_tmod, Int.tdiv_eq_ediv_of_nonneg hc, Int.tmod_eq_emod_of_nonneg hc]
    have h1 := Int.mul_ediv_add_emod c b
    have h2 := Int.emod_nonneg c hb
    have h3 := Int.emod_lt_of_pos c hb0
    rw [Int.mul_comm] at h1
    generalize c / b = q at *
    generalize c % b = r at *
    unfold partQ rndQ
    rcases hh with rfl | rfl
    · rw [if_pos rfl, if_pos rfl]
      by_cases hr : r = 0
      · rw [if_neg (by omega)]
        exact (div_is hb0 (by rw [Int.add_zero, Int.neg_mul]; omega) (by rw [Int.add_zero, Int.neg_mul]; omega)).symm
      · rw [if_pos (by omega)]
        exact (div_is hb0 (by rw [Int.add_mul, Int.neg_mul, Int.neg_mul, Int.one_mul]; omega) (by rw [Int.add_mul, Int.neg_mul, Int.neg_mul, Int.one_mul]; omega)).symm
    · rw [if_neg (show ¬ (2 : Int) = 1 by decide), if_neg (show ¬ (2 : Int) = 1 by decide), if_neg (by omega), Int.neg_neg]
      have : c / b = q := div_is hb0 (by omega) (by omega)
      rw [this]; omega
  · rw [Int.tdiv_eq_ediv_of_nonneg ha, Int.tmod_eq_emod_of_nonneg ha]
    have h1 := Int.mul_ediv_add_emod a b
    have h2 := Int.emod_nonneg a hb
    have h3 := Int.emod_lt_of_pos a hb0
    rw [Int.mul_comm] at h1
    unfold partQ rndQ
    rcases hh with rfl | rfl
    · rw [if_pos rfl, if_pos rfl, if_neg (by omega)]; omega
    · rw [if_neg (show ¬ (2 : Int) = 1 by decide), if_neg (show ¬ (2 : Int) = 1 by decide)]
      generalize a / b = q at *
      generalize a % b = r at *
      by_cases hr : r = 0
      · rw [if_neg (by omega)]
        have : (-a) / b = -q := div_is hb0 (by rw [Int.neg_mul]; omega) (by rw [Int.neg_mul]; omega)
        rw [this]; omega
      · rw [if_pos (by omega)]
        have : (-a) / b = -q - 1 := div_is hb0 (by rw [Int.sub_mul, Int.neg_mul, Int.one_mul]; omega) (by rw [Int.sub_mul, Int.neg_mul, Int.one_mul]; omega)
        rw [this]; omega

theorem tdiv_bd (a b : Int) (hb0 : 0 < b) (h1 : -4611686018427387904 ≤ a) (h2 : a ≤ 4611686018427387904) : -4611686018427387904 ≤ a.tdiv b ∧ a.tdiv b ≤ 4611686018427387904 ∧ -b < a.tmod b ∧ a.tmod b < b := by
  rcases Int.lt_or_le a 0 with ha | ha
  · obtain ⟨c, rfl⟩ : ∃ c, a = -c := ⟨-a, by omega⟩
    have hc : 0 ≤ c := by omega
    rw [Int.neg_tdiv, Int.neg_tmod, Int.tdiv_eq_ediv_of_nonneg hc, Int.tmod_eq_emod_of_nonneg hc]
    have := Int.ediv_nonneg hc (show 0 ≤ b by omega)
    have := Int.ediv_le_self b hc
    have h2 := Int.emod_nonneg c (show b ≠ 0 by omega)
    have h3 := Int.emod_lt_of_pos c hb0
    omega
  · rw [Int.tdiv_eq_ediv_of_nonneg ha, Int.tmod_eq_emod_of_nonneg ha]
    have := Int.ediv_nonneg ha (show 0 ≤ b by omega)
    have := Int.ediv_le_self b ha
    have h2 := Int.emod_nonneg a (show b ≠ 0 by omega)
    have h3 := Int.emod_lt_of_pos a hb0
    omega

/-- skill.share. -/
theorem share_c (a b how : Int) (w : World) (hh : how = 1 ∨ how = 2) (hb0 : 0 < b) (hb1 : b ≤ 2147483648) (h1 : -4611686018427387904 ≤ a) (h2 : a ≤ 4611686018427387904) :
    Calls Try.prog 65 #[.int .i64 a, .int .i64 b, .int .i64 how] w fun e w' => e = .returned (.tuple #[.int .i64 (rndQ how a b), .int .i64 0]) ∧ Below w.heap.size w w' := by
  obtain ⟨t1, t2, t3, t4⟩ := tdiv_bd a b hb0 h1 h2
  have HS : Hid (scaleX (a.tmod b) 1 b how = .ok (partQ how (a.tmod b))) := part_scale _ b how hh hb0 hb1 t3 t4
  have HF : Hid (a.tdiv b + partQ how (a.tmod b) = rndQ how a b) := part_sum a b how hh hb0
  have HP : -1 ≤ partQ how (a.tmod b) ∧ partQ how (a.tmod b) ≤ 1 := by unfold partQ; repeat' split
                                                                       all_goals omega
  have HW : Hid (Way how) := by show 0 ≤ how ∧ how ≤ 3; omega
  have hne : ¬ b = 0 := by omega
  have HO : Hid (okFix (a.tmod b)) := by show _ ∧ _; omega
  have HR : Hid (okRate b) := by show _ ∧ _; omega
  obtain ⟨p1, p2⟩ := HP
  clear hh
  go_enter Try.func65, Try.ntmps65
  go_wp2_with fail
  go_quiet (fail)
  go_wp2_with (go_at_call 73; refine (scale_c (a.tmod b) 1 b how _ _ HO.out HW.out (by show _ ∧ _; decide) HR.out hne HS.out).mono ?_; rintro e w1 ⟨rfl, hb⟩)
  go_ret2
  refine ⟨?_, ?_⟩
  · rw [← HF.out]; rfl
  · exact (show Below w.heap.size w (w.drewN nq) from ⟨rfl, rfl, rfl, Nat.le_refl _, fun _ _ => rfl⟩).trans hb
end Go.Proofs.Ytleceelemogbcaa
