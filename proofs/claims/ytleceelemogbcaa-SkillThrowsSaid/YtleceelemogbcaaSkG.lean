/- Package skill: CheckCall. -/
import Derived.Test.YtleceelemogbcaaSkF
namespace Go.Proofs.Ytleceelemogbcaa
open Go.RowKit

theorem cells_kept {w w' : World} {B n : Nat} {cs : Array Value} (h : ∀ i, w.cell? ⟨B, i, none⟩ = cs[i]?) (hb : Below n w w') (hB : B < n) : ∀ i, w'.cell? ⟨B, i, none⟩ = cs[i]? :=
  fun i => (hb.cell (p := ⟨B, i, none⟩) hB).trans (h i)

/-- Is a call valid? -/
def Cal.ok (c : Cal) : Bool := c.body.ok && (!c.body.rests && (broomsB c.l && (wB c.stx 0 8192000 && wB c.sty 0 8192000)))

set_option maxHeartbeats 2000000 in
theorem checkCall_c (c : Cal) (bv : Value) (w : World) (hl : Brms w bv c.l) :
    Calls Try.prog 10 #[.agg (c.cells bv)] w fun e w' => e = .returned (.int .i64 (errB c.ok)) ∧ Below w.heap.size w w' := by
  obtain ⟨team, n, ⟨ax, ay, sx, sy, spin⟩, l, stx, sty⟩ := c
  have HL : Hid (∀ w', Below w.heap.size w w' → Brms w' bv l) := fun w' hb => hl.below hb (Nat.le_refl _)
  obtain ⟨q, cap, rfl⟩ := hl.shape
  clear hl
  simp only at HL
  generalize hln : l.length = ln at *
  clear hln
  obtain ⟨k, hk⟩ : ∃ k, Cal.ok ⟨team, n, ⟨ax, ay, sx, sy, spin⟩, l, stx, sty⟩ = k := ⟨_, rfl⟩
  rw [hk]
  unfold Cal.ok at hk
  unfold Cal.cells
  simp only
  cases e1 : (Cal.body ⟨team, n, ⟨ax, ay, sx, sy, spin⟩, l, stx, sty⟩).ok
  case false =>
    rw [e1] at hk
    have HK : Hid (k = false) := hk.symm
    have H1 := Hid.mk' e1
    clear hk e1
    go_enter Try.func10, Try.ntmps10
    go_wp2_with (first
      | (go_at_call 34; refine (sbody_c ⟨team, n, ⟨ax, ay, sx, sy, spin⟩, l, stx, sty⟩ _ _).mono ?_; rintro e w1 ⟨rfl, hb1⟩; obtain ⟨hc1, hc2, hf1, hf2, hz⟩ := two_new hb1; have hbw : Below w.heap.size w w1 := (((Below.refl _ _).alloc (Nat.le_refl _) _).alloc (by simp) _).trans (hb1.mono (by simp <;> omega)); clear hc1 hf1 hf2)
      | (go_at_call 33; refine (svalid_c _ _ rfl).mono ?_; rintro e w2 ⟨rfl, hb2⟩; rw [H1.out]; have k2 := cells_kept hc2 hb2 hz; have a4 := k2 4; have a5 := k2 5; have a7 := k2 7; have hbw2 : Below w.heap.size w w2 := hbw.trans (hb2.mono hbw.size); have hz2 : w.heap.size + 1 < w2.heap.size := Nat.lt_of_lt_of_le hz hb2.size; clear hc2))
    go_ret
    exact ⟨by rw [HK.out]; rfl, hbw2⟩
  rw [e1] at hk
  have H1 := Hid.mk' e1
  clear e1
  by_cases hs : sx = 0 ∧ sy = 0
  case pos =>
    obtain ⟨rfl, rfl⟩ := hs
    have HK : Hid (k = false) := by rw [← hk]; rfl
    clear hk
    go_enter Try.func10, Try.ntmps10
    go_wp2_with (first
      | (go_at_call 34; refine (sbody_c ⟨team, n, ⟨ax, ay, 0, 0, spin⟩, l, stx, sty⟩ _ _).mono ?_; rintro e w1 ⟨rfl, hb1⟩; obtain ⟨hc1, hc2, hf1, hf2, hz⟩ := two_new hb1; have hbw : Below w.heap.size w w1 := (((Below.refl _ _).alloc (Nat.le_refl _) _).alloc (by simp) _).trans (hb1.mono (by simp <;> omega)); clear hc1 hf1 hf2)
      | (go_at_call 33; refine (svalid_c _ _ rfl).mono ?_; rintro e w2 ⟨rfl, hb2⟩; rw [H1.out]; have k2 := cells_kept hc2 hb2 hz; have a4 := k2 4; have a5 := k2 5; have a7 := k2 7; have hbw2 : Below w.heap.size w w2 := hbw.trans (hb2.mono hbw.size); have hz2 : w.heap.size + 1 < w2.heap.size := Nat.lt_of_lt_of_le hz hb2.size; clear hc2))
    go_ret
    exact ⟨by rw [HK.out]; rfl, hbw2⟩
  have hr : (Cal.body ⟨team, n, ⟨ax, ay, sx, sy, spin⟩, l, stx, sty⟩).rests = false := by
    show (sx == 0 && sy == 0) = false
    by_cases h0 : sx = 0
    · have : ¬ sy = 0 := fun h => hs ⟨h0, h⟩
      simp [this]
    · simp [h0]
  rw [hr] at hk
  clear hr
  have hs' : (sx == 0) = false ∨ ((sx == 0) = true ∧ (sy == 0) = false) := by
    by_cases h0 : sx = 0
    · right
      have : ¬ sy = 0 := fun h => hs ⟨h0, h⟩
      simp [h0, this]
    · left; simp [h0]
  clear hs
  cases e3 : broomsB l
  case false =>
    rw [e3] at hk
    have HK : Hid (k = false) := hk.symm
    have H3 := Hid.mk' e3
    clear hk e3
    rcases hs' with hs | ⟨hs0, hs⟩
    all_goals
      go_enter Try.func10, Try.ntmps10
      go_wp2_with (first
      | (go_at_call 34; refine (sbody_c ⟨team, n, ⟨ax, ay, sx, sy, spin⟩, l, stx, sty⟩ _ _).mono ?_; rintro e w1 ⟨rfl, hb1⟩; obtain ⟨hc1, hc2, hf1, hf2, hz⟩ := two_new hb1; have hbw : Below w.heap.size w w1 := (((Below.refl _ _).alloc (Nat.le_refl _) _).alloc (by simp) _).trans (hb1.mono (by simp <;> omega)); clear hc1 hf1 hf2)
      | (go_at_call 33; refine (svalid_c _ _ rfl).mono ?_; rintro e w2 ⟨rfl, hb2⟩; rw [H1.out]; have k2 := cells_kept hc2 hb2 hz; have a4 := k2 4; have a5 := k2 5; have a7 := k2 7; have hbw2 : Below w.heap.size w w2 := hbw.trans (hb2.mono hbw.size); have hz2 : w.heap.size + 1 < w2.heap.size := Nat.lt_of_lt_of_le hz hb2.size; clear hc2)
      | (go_at_call 35; refine (checkBrooms_c l _ _ (HL.out _ hbw2)).mono ?_; rintro e w3 ⟨rfl, hb3⟩; rw [H3.out]; simp only [errB]; have k3 := cells_kept k2 hb3 hz2; have b8 := k3 8; have b9 := k3 9; have hbw3 : Below w.heap.size w w3 := hbw2.trans (hb3.mono hbw2.size); clear k2 k3 a4 a5 a7))
      go_ret
      exact ⟨by rw [HK.out]; rfl, hbw3⟩
  rw [e3] at hk
  have H3 := Hid.mk' e3
  clear e3
  cases e4 : wB stx 0 8192000
  case false =>
    rw [e4] at hk
    have HK : Hid (k = false) := hk.symm
    have H4 := Hid.mk' e4
    clear hk e4
    rcases hs' with hs | ⟨hs0, hs⟩
    all_goals
      go_enter Try.func10, Try.ntmps10
      go_wp2_with (first
      | (go_at_call 34; refine (sbody_c ⟨team, n, ⟨ax, ay, sx, sy, spin⟩, l, stx, sty⟩ _ _).mono ?_; rintro e w1 ⟨rfl, hb1⟩; obtain ⟨hc1, hc2, hf1, hf2, hz⟩ := two_new hb1; have hbw : Below w.heap.size w w1 := (((Below.refl _ _).alloc (Nat.le_refl _) _).alloc (by simp) _).trans (hb1.mono (by simp <;> omega)); clear hc1 hf1 hf2)
      | (go_at_call 33; refine (svalid_c _ _ rfl).mono ?_; rintro e w2 ⟨rfl, hb2⟩; rw [H1.out]; have k2 := cells_kept hc2 hb2 hz; have a4 := k2 4; have a5 := k2 5; have a7 := k2 7; have hbw2 : Below w.heap.size w w2 := hbw.trans (hb2.mono hbw.size); have hz2 : w.heap.size + 1 < w2.heap.size := Nat.lt_of_lt_of_le hz hb2.size; clear hc2)
      | (go_at_call 35; refine (checkBrooms_c l _ _ (HL.out _ hbw2)).mono ?_; rintro e w3 ⟨rfl, hb3⟩; rw [H3.out]; simp only [errB]; have k3 := cells_kept k2 hb3 hz2; have b8 := k3 8; have b9 := k3 9; have hbw3 : Below w.heap.size w w3 := hbw2.trans (hb3.mono hbw2.size); clear k2 k3 a4 a5 a7)
      | (go_at_call_of 36 (Value.int .i64 stx); refine (withinFix_c stx _ _ _).mono ?_; rintro e w' ⟨rfl, rfl⟩; rw [H4.out]))
      go_ret
      exact ⟨by rw [HK.out]; rfl, hbw3⟩
  rw [e4] at hk
  have H4 := Hid.mk' e4
  clear e4
  cases e5 : wB sty 0 8192000
  all_goals
    rw [e5] at hk
    have HK : Hid (k = _) := hk.symm
    have H5 := Hid.mk' e5
    clear hk e5
    rcases hs' with hs | ⟨hs0, hs⟩
    all_goals
      go_enter Try.func10, Try.ntmps10
      go_wp2_with (first
      | (go_at_call 34; refine (sbody_c ⟨team, n, ⟨ax, ay, sx, sy, spin⟩, l, stx, sty⟩ _ _).mono ?_; rintro e w1 ⟨rfl, hb1⟩; obtain ⟨hc1, hc2, hf1, hf2, hz⟩ := two_new hb1; have hbw : Below w.heap.size w w1 := (((Below.refl _ _).alloc (Nat.le_refl _) _).alloc (by simp) _).trans (hb1.mono (by simp <;> omega)); clear hc1 hf1 hf2)
      | (go_at_call 33; refine (svalid_c _ _ rfl).mono ?_; rintro e w2 ⟨rfl, hb2⟩; rw [H1.out]; have k2 := cells_kept hc2 hb2 hz; have a4 := k2 4; have a5 := k2 5; have a7 := k2 7; have hbw2 : Below w.heap.size w w2 := hbw.trans (hb2.mono hbw.size); have hz2 : w.heap.size + 1 < w2.heap.size := Nat.lt_of_lt_of_le hz hb2.size; clear hc2)
      | (go_at_call 35; refine (checkBrooms_c l _ _ (HL.out _ hbw2)).mono ?_; rintro e w3 ⟨rfl, hb3⟩; rw [H3.out]; simp only [errB]; have k3 := cells_kept k2 hb3 hz2; have b8 := k3 8; have b9 := k3 9; have hbw3 : Below w.heap.size w w3 := hbw2.trans (hb3.mono hbw2.size); clear k2 k3 a4 a5 a7)
      | (go_at_call_of 36 (Value.int .i64 stx); refine (withinFix_c stx _ _ _).mono ?_; rintro e w' ⟨rfl, rfl⟩; rw [H4.out])
      | (go_at_call_of 36 (Value.int .i64 sty); refine (withinFix_c sty _ _ _).mono ?_; rintro e w' ⟨rfl, rfl⟩; rw [H5.out]))
      go_ret
      exact ⟨by rw [HK.out]; rfl, hbw3⟩
end Go.Proofs.Ytleceelemogbcaa
