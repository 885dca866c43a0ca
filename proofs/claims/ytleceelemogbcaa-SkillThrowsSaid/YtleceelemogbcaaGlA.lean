/- Validity of stones and brooms: packages glide and contact. -/
import Derived.Test.YtleceelemogbcaaSkC
namespace Go.Proofs.Ytleceelemogbcaa
open Go.RowKit

/-- A spot as a value. -/
abbrev spotV (x y : Int) : Value := .agg #[.int .i64 x, .int .i64 y]
/-- A moving stone. -/
structure Mov where
  ax : Int
  ay : Int
  sx : Int
  sy : Int
  spin : Int
abbrev Mov.v (m : Mov) : Value := .agg #[.int .i64 m.ax, .int .i64 m.ay, .int .i64 m.sx, .int .i64 m.sy, .int .i64 m.spin]

theorem gwithin_c (n lo hi : Int) (w : World) : Calls Try.prog 60 #[.int .i64 n, .int .i64 lo, .int .i64 hi] w fun e w' => e = .returned (.bool (wB n lo hi)) ∧ w = w' := by
  unfold wB
  cases h1 : decide (lo ≤ n) <;> cases h2 : decide (n ≤ hi)
  all_goals
    go_enter Try.func60, Try.ntmps60
    go_wp2
    go_ret
    exact ⟨rfl, rfl⟩

theorem gwithinFix_c (n lo hi : Int) (w : World) : Calls Try.prog 96 #[.int .i64 n, .int .i64 lo, .int .i64 hi] w fun e w' => e = .returned (.bool (wB n lo hi)) ∧ w = w' := by
  unfold wB
  cases h1 : decide (lo ≤ n) <;> cases h2 : decide (n ≤ hi)
  all_goals
    go_enter Try.func96, Try.ntmps96
    go_wp2
    go_ret
    exact ⟨rfl, rfl⟩

theorem cwithin_c (n lo hi : Int) (w : World) : Calls Try.prog 74 #[.int .i64 n, .int .i64 lo, .int .i64 hi] w fun e w' => e = .returned (.bool (wB n lo hi)) ∧ w = w' := by
  unfold wB
  cases h1 : decide (lo ≤ n) <;> cases h2 : decide (n ≤ hi)
  all_goals
    go_enter Try.func74, Try.ntmps74
    go_wp2
    go_ret
    exact ⟨rfl, rfl⟩

/-- Have both numbers of a spot at most a size? -/
def sqB (x y most : Int) : Bool := wB x (-most) most && wB y (-most) most

theorem square_g (x y most : Int) (w : World) (h0 : 0 ≤ most) (h1 : most ≤ 9223372036854775807) :
    Calls Try.prog 85 #[spotV x y, .int .i64 most] w fun e w' => e = .returned (.bool (sqB x y most)) ∧ Below w.heap.size w w' := by
  unfold sqB
  cases e1 : wB x (-most) most <;> cases e2 : wB y (-most) most
  all_goals
    have H1 : Hid (wB x (-most) most = _) := e1
    have H2 : Hid (wB y (-most) most = _) := e2
    clear e1 e2
    go_enter Try.func85, Try.ntmps85
    go_wp2_with (go_at_call 96; refine (gwithinFix_c _ _ _ _).mono ?_; rintro e w' ⟨rfl, rfl⟩; first | rw [H1.out] | rw [H2.out])
    go_ret
    exact ⟨rfl, (Below.refl _ _).alloc (Nat.le_refl _) _⟩

/-- Is a moving stone valid? -/
def Mov.ok (m : Mov) : Bool := sqB m.ax m.ay 6553600000 && (sqB m.sx m.sy 65536000 && wB m.spin (-1000) 1000)

/-- ErrArg, unless. -/
def errB (b : Bool) : Int := if b then 0 else 2

/-- A new block's cells, and what lies behind. -/
theorem one_new {w w1 : World} {c1 : Array Value} {t1 : TypeId} (hb : Below (w.alloc (.cells c1 t1)).heap.size (w.alloc (.cells c1 t1)) w1) :
    (∀ i, w1.cell? ⟨w.heap.size, i, none⟩ = c1[i]?) ∧ (∀ i, w1.frozen? ⟨w.heap.size, i, none⟩ = false) ∧ w.heap.size < w1.heap.size ∧ Below w.heap.size w w1 := by
  refine ⟨fun i => ?_, fun i => ?_, ?_, ((Below.refl _ _).alloc (Nat.le_refl _) _).trans (hb.mono (by simp))⟩
  · rw [hb.cell (p := ⟨w.heap.size, i, none⟩) (by simp)]; simp [go_sem]
  · rw [hb.frozen (p := ⟨w.heap.size, i, none⟩) (by simp)]; simp [go_sem]
  · have := hb.size; simp at this; omega

set_option maxHeartbeats 1000000 in
theorem gcheck_c (m : Mov) (w : World) :
    Calls Try.prog 75 #[m.v] w fun e w' => e = .returned (.int .i64 (errB m.ok)) ∧ Below w.heap.size w w' := by
  obtain ⟨ax, ay, sx, sy, spin⟩ := m
  unfold Mov.ok Mov.v
  simp only
  cases e1 : sqB ax ay 6553600000
  · have H1 : Hid (sqB ax ay 6553600000 = _) := e1
    clear e1
    go_enter Try.func75, Try.ntmps75
    go_wp2_with (go_at_call 85; refine (square_g _ _ _ _ (by omega) (by omega)).mono ?_; rintro e w1 ⟨rfl, hb1⟩; rw [H1.out]; obtain ⟨hc, hf, hz, hw⟩ := one_new hb1)
    go_ret
    exact ⟨rfl, hw⟩
  · have H1 : Hid (sqB ax ay 6553600000 = _) := e1
    clear e1
    cases e2 : sqB sx sy 65536000
    · have H2 : Hid (sqB sx sy 65536000 = _) := e2
      clear e2
      go_enter Try.func75, Try.ntmps75
      go_wp2_with (first
        | (go_at_call_of 85 (Value.int .i64 6553600000); refine (square_g ax ay _ _ (by omega) (by omega)).mono ?_; rintro e w1 ⟨rfl, hb1⟩; rw [H1.out]; obtain ⟨hc, hf, hz, hw⟩ := one_new hb1; have c2 := hc 2; have c3 := hc 3)
        | (go_at_call_of 85 (Value.int .i64 65536000); refine (square_g sx sy _ _ (by omega) (by omega)).mono ?_; rintro e w2 ⟨rfl, hb2⟩; rw [H2.out]))
      go_ret
      exact ⟨rfl, hw.trans (hb2.mono (by omega))⟩
    · have H2 : Hid (sqB sx sy 65536000 = _) := e2
      clear e2
      cases e3 : wB spin (-1000) 1000
      all_goals
        have H3 : Hid (wB spin (-1000) 1000 = _) := e3
        clear e3
        go_enter Try.func75, Try.ntmps75
        go_wp2_with (first
          | (go_at_call_of 85 (Value.int .i64 6553600000); refine (square_g ax ay _ _ (by omega) (by omega)).mono ?_; rintro e w1 ⟨rfl, hb1⟩; rw [H1.out]; obtain ⟨hc, hf, hz, hw⟩ := one_new hb1; have c2 := hc 2; have c3 := hc 3; have c4 := hc 4)
          | (go_at_call_of 85 (Value.int .i64 65536000); refine (square_g sx sy _ _ (by omega) (by omega)).mono ?_; rintro e w2 ⟨rfl, hb2⟩; rw [H2.out]; have d4 := (hb2.cell (p := ⟨w.heap.size, 4, none⟩) hz).trans c4)
          | (go_at_call 60; refine (gwithin_c _ _ _ _).mono ?_; rintro e w' ⟨rfl, rfl⟩; rw [H3.out]))
        go_ret
        exact ⟨rfl, hw.trans (hb2.mono (by omega))⟩
end Go.Proofs.Ytleceelemogbcaa
