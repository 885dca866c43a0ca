/- The contract of fixed.quotient. -/
import Derived.Test.YtleceelemogbcaaFixE
namespace Go.Proofs.Ytleceelemogbcaa
open Go.RowKit NumA

/-- What a reckoning of package fixed comes to. -/
def endFix : Except Int Int → Ending
  | .ok v => .returned (.int .i64 v)
  | .error e => .panicked (fixPanic e)

/-- How twice a rest compares with the divisor, as the code has it. -/
def halfI (r den : Int) : Int := orI (cmpI (carryI r r) 0) (cmpI (loW (r + r)) den)

theorem halfI_eq {r den : Int} (hr : Word r) (hd : Word den) : halfI r den = cmpI (r + r) den := by
  unfold Word at hr hd
  unfold halfI orI cmpI loW carryI
  repeat' split
  all_goals omega

/-- The quotient's size, rounded. -/
def qUp (h l den : Int) (neg : Bool) (how : Int) : Int :=
  if 0 < remI h l den ∧ rndB how (halfI (remI h l den) den) neg = true then (quoI h l den + 1) % 18446744073709551616 else quoI h l den

/-- fixed.quotient as a function. -/
def quot (h l den : Int) (neg : Bool) (how : Int) : Except Int Int :=
  if den ≤ h then .error 4 else if qUp h l den neg how ≤ 70368744177664 then .ok (sgn (qUp h l den neg how) neg) else .error 4

theorem quoI_word {h l den : Int} (hh : Word h) (hl : Word l) (hd : Word den) (hlt : h < den) : Word (quoI h l den) ∧ Word (remI h l den) := by
  unfold Word at *
  unfold quoI remI
  have h1 : (h * 18446744073709551616 + l) / den < 18446744073709551616 := by
    apply Int.ediv_lt_of_lt_mul (by omega)
    have : (h + 1) * 18446744073709551616 ≤ den * 18446744073709551616 := Int.mul_le_mul_of_nonneg_right (by omega) (by omega)
    rw [Int.mul_comm 18446744073709551616]
    omega
  have h0 : 0 ≤ (h * 18446744073709551616 + l) / den := Int.ediv_nonneg (by omega) (by omega)
  have h2 := Int.emod_nonneg (h * 18446744073709551616 + l) (show den ≠ 0 by omega)
  have h3 := Int.emod_lt_of_pos (h * 18446744073709551616 + l) (show 0 < den by omega)
  omega

theorem quotient_none (h l den : Int) (neg : Bool) (f : Value) (w : World) (hlt : den ≤ h) :
    Calls Try.prog 81 #[wideV h l, .int .u64 den, .bool neg, f] w fun e w' => e = .panicked (fixPanic 4) ∧ Below w.heap.size w w' := by
  go_enter Try.func81, Try.ntmps81
  go_wp2_with (first
    | (go_at_call 91; refine (over_no h l den _ hlt).mono ?_; rintro e w1 ⟨rfl, hb1⟩)
    | (go_at_call 80; refine (need_no _ _).mono ?_; rintro e w' ⟨rfl, rfl⟩))
  exact ⟨rfl, rfl, ((Below.refl _ _).alloc (Nat.le_refl _) _).trans (hb1.mono (by simp))⟩

set_option maxHeartbeats 1000000 in
theorem quotient_rest0 (h l den : Int) (neg : Bool) (f : Value) (w : World) (hh : Word h) (hl : Word l) (hd : Word den) (hlt : h < den) (hr : remI h l den = 0) :
    Calls Try.prog 81 #[wideV h l, .int .u64 den, .bool neg, f] w fun e w' => e = endFix (if quoI h l den ≤ 70368744177664 then .ok (sgn (quoI h l den) neg) else .error 4) ∧ Below w.heap.size w w' := by
  obtain ⟨⟨q0, q1⟩, -⟩ := quoI_word hh hl hd hlt
  by_cases hq : quoI h l den ≤ 70368744177664
  · rw [if_pos hq]
    go_enter Try.func81, Try.ntmps81
    go_wp2_with (first
      | (go_at_call 91; refine (over_yes h l den _ hh.1 hl hd.2 hlt).mono ?_; rintro e w1 ⟨rfl, hb1⟩)
      | (go_at_call 80; refine (need_yes _ _).mono ?_; rintro e w' ⟨rfl, rfl⟩)
      | (go_at_call 94; refine (signed_yes _ _ _ q0 hq).mono ?_; rintro e w' ⟨rfl, rfl⟩))
    go_ret
    exact ⟨rfl, ((Below.refl _ _).alloc (Nat.le_refl _) _).trans (hb1.mono (by simp))⟩
  · rw [if_neg hq]
    go_enter Try.func81, Try.ntmps81
    go_wp2_with (first
      | (go_at_call 91; refine (over_yes h l den _ hh.1 hl hd.2 hlt).mono ?_; rintro e w1 ⟨rfl, hb1⟩)
      | (go_at_call 80; refine (need_yes _ _).mono ?_; rintro e w' ⟨rfl, rfl⟩)
      | (go_at_call 94; refine (signed_no _ _ _ (by omega)).mono ?_; rintro e w' ⟨rfl, rfl⟩))
    exact ⟨rfl, rfl, ((Below.refl _ _).alloc (Nat.le_refl _) _).trans (hb1.mono (by simp))⟩

set_option maxHeartbeats 2000000 in
theorem quotient_rest (h l den : Int) (neg : Bool) (how : Int) (w : World) (hw : Way how) (hh : Word h) (hl : Word l) (hd : Word den) (hlt : h < den) (hr : 0 < remI h l den) (b : Bool) (hrn' : rndB how (halfI (remI h l den) den) neg = b) :
    Calls Try.prog 81 #[wideV h l, .int .u64 den, .bool neg, wayV how] w fun e w' => e = endFix (if (if b then (quoI h l den + 1) % 18446744073709551616 else quoI h l den) ≤ 70368744177664 then .ok (sgn (if b then (quoI h l den + 1) % 18446744073709551616 else quoI h l den) neg) else .error 4) ∧ Below w.heap.size w w' := by
  obtain ⟨⟨q0, q1⟩, hrw⟩ := quoI_word hh hl hd hlt
  have hz : Word 0 := ⟨by omega, by omega⟩
  have hroom : Hid (0 + 0 + carryI (remI h l den) (remI h l den) < 18446744073709551616) := by obtain ⟨_, _⟩ := hrw; show _ < _; unfold carryI; omega
  have hhalf : Hid (orI (cmpI (carryI (remI h l den) (remI h l den)) 0) (cmpI (loW (remI h l den + remI h l den)) den) = halfI (remI h l den) den) := rfl
  have hrn : Hid (rndB how (halfI (remI h l den) den) neg = b) := hrn'
  clear hrn'
  have hwrap : IntKind.u64.wrap (quoI h l den + 1) = (quoI h l den + 1) % 18446744073709551616 := by rw [IntKind.wrap_u64]
  generalize hQ : (quoI h l den + 1) % 18446744073709551616 = q' at *
  have q2 : 0 ≤ q' := by omega
  clear hQ
  rcases hw.cases with rfl | rfl | rfl | rfl
  all_goals
    first | rw [wayV_0] | rw [wayV_1] | rw [wayV_2] | rw [wayV_3]
    cases b
    · by_cases hq : (quoI h l den) ≤ 70368744177664
      · have hfin : (if (if false = true then q' else quoI h l den) ≤ 70368744177664 then Except.ok (sgn (if false = true then q' else quoI h l den) neg) else Except.error 4) = (Except.ok (sgn (quoI h l den) neg) : Except Int Int) := by simp [hq]
        rw [hfin]
        clear hfin
        go_enter Try.func81, Try.ntmps81
        go_wp2_with (first
        | (go_at_call 91; refine (over_yes h l den _ hh.1 hl hd.2 hlt).mono ?_; rintro e w1 ⟨rfl, hb1⟩)
        | (go_at_call 80; refine (need_yes _ _).mono ?_; rintro e w' ⟨rfl, rfl⟩)
        | (go_at_call 92; refine (plus_c 0 (remI h l den) 0 (remI h l den) _ hz hrw hz hrw hroom.out).mono ?_; rintro e w2 ⟨rfl, hb2⟩)
        | (go_at_call 93; refine (wcompare_c _ _ _ _ _).mono ?_; rintro e w3 ⟨rfl, hb3⟩; rw [hhalf.out])
        | (go_at_call 87; refine (way0 _ _ _).mono ?_; rintro e w' ⟨rfl, rfl⟩; rw [hrn.out])
        | (go_at_call 88; refine (way1 _ _ _).mono ?_; rintro e w' ⟨rfl, rfl⟩; rw [hrn.out])
        | (go_at_call 89; refine (way2 _ _ _).mono ?_; rintro e w' ⟨rfl, rfl⟩; rw [hrn.out])
        | (go_at_call 90; refine (way3 _ _ _).mono ?_; rintro e w' ⟨rfl, rfl⟩; rw [hrn.out])
        | (go_at_call 94; refine (signed_yes _ _ _ q0 hq).mono ?_; rintro e w' ⟨rfl, rfl⟩))
        go_ret
        exact ⟨rfl, (((Below.refl _ _).alloc (Nat.le_refl _) _).trans (hb1.mono (by simp))).trans ((hb2.mono (by have := hb1.size; simp at this; omega)).trans (hb3.mono (by have := hb1.size; have := hb2.size; simp at *; omega)))⟩
      · have hfin : (if (if false = true then q' else quoI h l den) ≤ 70368744177664 then Except.ok (sgn (if false = true then q' else quoI h l den) neg) else Except.error 4) = (Except.error 4 : Except Int Int) := by simp [hq]
        rw [hfin]
        clear hfin
        go_enter Try.func81, Try.ntmps81
        go_wp2_with (first
        | (go_at_call 91; refine (over_yes h l den _ hh.1 hl hd.2 hlt).mono ?_; rintro e w1 ⟨rfl, hb1⟩)
        | (go_at_call 80; refine (need_yes _ _).mono ?_; rintro e w' ⟨rfl, rfl⟩)
        | (go_at_call 92; refine (plus_c 0 (remI h l den) 0 (remI h l den) _ hz hrw hz hrw hroom.out).mono ?_; rintro e w2 ⟨rfl, hb2⟩)
        | (go_at_call 93; refine (wcompare_c _ _ _ _ _).mono ?_; rintro e w3 ⟨rfl, hb3⟩; rw [hhalf.out])
        | (go_at_call 87; refine (way0 _ _ _).mono ?_; rintro e w' ⟨rfl, rfl⟩; rw [hrn.out])
        | (go_at_call 88; refine (way1 _ _ _).mono ?_; rintro e w' ⟨rfl, rfl⟩; rw [hrn.out])
        | (go_at_call 89; refine (way2 _ _ _).mono ?_; rintro e w' ⟨rfl, rfl⟩; rw [hrn.out])
        | (go_at_call 90; refine (way3 _ _ _).mono ?_; rintro e w' ⟨rfl, rfl⟩; rw [hrn.out])
        | (go_at_call 94; refine (signed_no _ _ _ (by omega)).mono ?_; rintro e w' ⟨rfl, rfl⟩))
        exact ⟨rfl, rfl, (((Below.refl _ _).alloc (Nat.le_refl _) _).trans (hb1.mono (by simp))).trans ((hb2.mono (by have := hb1.size; simp at this; omega)).trans (hb3.mono (by have := hb1.size; have := hb2.size; simp at *; omega)))⟩
    · by_cases hq : q' ≤ 70368744177664
      · have hfin : (if (if true = true then q' else quoI h l den) ≤ 70368744177664 then Except.ok (sgn (if true = true then q' else quoI h l den) neg) else Except.error 4) = (Except.ok (sgn q' neg) : Except Int Int) := by simp [hq]
        rw [hfin]
        clear hfin
        go_enter Try.func81, Try.ntmps81
        go_wp2_with (first
        | (go_at_call 91; refine (over_yes h l den _ hh.1 hl hd.2 hlt).mono ?_; rintro e w1 ⟨rfl, hb1⟩)
        | (go_at_call 80; refine (need_yes _ _).mono ?_; rintro e w' ⟨rfl, rfl⟩)
        | (go_at_call 92; refine (plus_c 0 (remI h l den) 0 (remI h l den) _ hz hrw hz hrw hroom.out).mono ?_; rintro e w2 ⟨rfl, hb2⟩)
        | (go_at_call 93; refine (wcompare_c _ _ _ _ _).mono ?_; rintro e w3 ⟨rfl, hb3⟩; rw [hhalf.out])
        | (go_at_call 87; refine (way0 _ _ _).mono ?_; rintro e w' ⟨rfl, rfl⟩; rw [hrn.out])
        | (go_at_call 88; refine (way1 _ _ _).mono ?_; rintro e w' ⟨rfl, rfl⟩; rw [hrn.out])
        | (go_at_call 89; refine (way2 _ _ _).mono ?_; rintro e w' ⟨rfl, rfl⟩; rw [hrn.out])
        | (go_at_call 90; refine (way3 _ _ _).mono ?_; rintro e w' ⟨rfl, rfl⟩; rw [hrn.out])
        | (go_at_call 94; refine (signed_yes _ _ _ q2 hq).mono ?_; rintro e w' ⟨rfl, rfl⟩))
        go_ret
        exact ⟨rfl, (((Below.refl _ _).alloc (Nat.le_refl _) _).trans (hb1.mono (by simp))).trans ((hb2.mono (by have := hb1.size; simp at this; omega)).trans (hb3.mono (by have := hb1.size; have := hb2.size; simp at *; omega)))⟩
      · have hfin : (if (if true = true then q' else quoI h l den) ≤ 70368744177664 then Except.ok (sgn (if true = true then q' else quoI h l den) neg) else Except.error 4) = (Except.error 4 : Except Int Int) := by simp [hq]
        rw [hfin]
        clear hfin
        go_enter Try.func81, Try.ntmps81
        go_wp2_with (first
        | (go_at_call 91; refine (over_yes h l den _ hh.1 hl hd.2 hlt).mono ?_; rintro e w1 ⟨rfl, hb1⟩)
        | (go_at_call 80; refine (need_yes _ _).mono ?_; rintro e w' ⟨rfl, rfl⟩)
        | (go_at_call 92; refine (plus_c 0 (remI h l den) 0 (remI h l den) _ hz hrw hz hrw hroom.out).mono ?_; rintro e w2 ⟨rfl, hb2⟩)
        | (go_at_call 93; refine (wcompare_c _ _ _ _ _).mono ?_; rintro e w3 ⟨rfl, hb3⟩; rw [hhalf.out])
        | (go_at_call 87; refine (way0 _ _ _).mono ?_; rintro e w' ⟨rfl, rfl⟩; rw [hrn.out])
        | (go_at_call 88; refine (way1 _ _ _).mono ?_; rintro e w' ⟨rfl, rfl⟩; rw [hrn.out])
        | (go_at_call 89; refine (way2 _ _ _).mono ?_; rintro e w' ⟨rfl, rfl⟩; rw [hrn.out])
        | (go_at_call 90; refine (way3 _ _ _).mono ?_; rintro e w' ⟨rfl, rfl⟩; rw [hrn.out])
        | (go_at_call 94; refine (signed_no _ _ _ (by omega)).mono ?_; rintro e w' ⟨rfl, rfl⟩))
        exact ⟨rfl, rfl, (((Below.refl _ _).alloc (Nat.le_refl _) _).trans (hb1.mono (by simp))).trans ((hb2.mono (by have := hb1.size; simp at this; omega)).trans (hb3.mono (by have := hb1.size; have := hb2.size; simp at *; omega)))⟩

end Go.Proofs.Ytleceelemogbcaa
