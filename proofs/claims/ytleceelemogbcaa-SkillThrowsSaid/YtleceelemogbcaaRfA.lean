/- The document's functions on stones, brooms and bodies. -/
import Derived.Test.YtleceelemogbcaaSkK
import Derived.Deep.QuietTactic
import Derived.BigQuiet
namespace Go.Proofs.Ytleceelemogbcaa
open Go.RowKit

theorem in01_c (n lo hi : Int) (w : World) : Calls Try.prog 55 #[.int .i64 n, .int .i64 lo, .int .i64 hi] w fun e w' => e = .returned (.bool (wB n lo hi)) ∧ w = w' := by
  unfold wB
  cases h1 : decide (lo ≤ n) <;> cases h2 : decide (n ≤ hi)
  all_goals
    go_enter Try.func55, Try.ntmps55
    go_wp2
    go_ret
    exact ⟨rfl, rfl⟩

theorem in10_c (n lo hi : Int) (w : World) : Calls Try.prog 30 #[.int .i64 n, .int .i64 lo, .int .i64 hi] w fun e w' => e = .returned (.bool (wB n lo hi)) ∧ w = w' := by
  go_enter Try.func30, Try.ntmps30
  go_wp2_with (go_at_call 55; refine (in01_c _ _ _ _).mono ?_; rintro e w' ⟨rfl, rfl⟩)
  go_ret
  exact ⟨rfl, rfl⟩

theorem in05_c (n lo hi : Int) (w : World) : Calls Try.prog 56 #[.int .i64 n, .int .i64 lo, .int .i64 hi] w fun e w' => e = .returned (.bool (wB n lo hi)) ∧ w = w' := by
  go_enter Try.func56, Try.ntmps56
  go_wp2_with (go_at_call 55; refine (in01_c _ _ _ _).mono ?_; rintro e w' ⟨rfl, rfl⟩)
  go_ret
  exact ⟨rfl, rfl⟩

theorem in04_c (n lo hi : Int) (w : World) : Calls Try.prog 67 #[.int .i64 n, .int .i64 lo, .int .i64 hi] w fun e w' => e = .returned (.bool (wB n lo hi)) ∧ w = w' := by
  go_enter Try.func67, Try.ntmps67
  go_wp2_with (go_at_call 55; refine (in01_c _ _ _ _).mono ?_; rintro e w' ⟨rfl, rfl⟩)
  go_ret
  exact ⟨rfl, rfl⟩

theorem spot03_c (x y : Int) (w : World) : Calls Try.prog 68 #[spotV x y] w fun e w' => e = .returned (.bool (sqB x y 6553600000)) ∧ Below w.heap.size w w' := by
  have he : sqB x y 6553600000 = ((decide (-6553600000 ≤ x) && decide (x ≤ 6553600000)) && (decide (-6553600000 ≤ y) && decide (y ≤ 6553600000))) := rfl
  rw [he]
  cases h1 : decide (-6553600000 ≤ x) <;> cases h2 : decide (x ≤ 6553600000) <;> cases h3 : decide (-6553600000 ≤ y) <;> cases h4 : decide (y ≤ 6553600000)
  all_goals
    go_enter Try.func68, Try.ntmps68
    go_wp2
    go_ret
    exact ⟨rfl, (Below.refl _ _).alloc (Nat.le_refl _) _⟩

theorem rest04_c (m : Mov) (w : World) : Calls Try.prog 54 #[m.v] w fun e w' => e = .returned (.bool (m.sx == 0 && m.sy == 0)) ∧ Below w.heap.size w w' := by
  obtain ⟨ax, ay, sx, sy, spin⟩ := m
  unfold Mov.v
  simp only
  cases h1 : sx == 0 <;> cases h2 : sy == 0
  all_goals
    go_enter Try.func54, Try.ntmps54
    go_wp2
    go_ret
    exact ⟨rfl, (Below.refl _ _).alloc (Nat.le_refl _) _⟩

set_option maxHeartbeats 2000000 in
theorem moving04_c (m : Mov) (w : World) : Calls Try.prog 57 #[m.v] w fun e w' => e = .returned (.bool m.ok) ∧ Below w.heap.size w w' := by
  obtain ⟨ax, ay, sx, sy, spin⟩ := m
  have he : (Mov.mk ax ay sx sy spin).ok = (((decide (-65536000 ≤ sx) && decide (sx ≤ 65536000)) && (decide (-65536000 ≤ sy) && decide (sy ≤ 65536000))) && (sqB ax ay 6553600000 && wB spin (-1000) 1000)) := by
    show (sqB ax ay 6553600000 && (((decide (-65536000 ≤ sx) && decide (sx ≤ 65536000)) && (decide (-65536000 ≤ sy) && decide (sy ≤ 65536000))) && wB spin (-1000) 1000)) = _
    generalize ((decide (-65536000 ≤ sx) && decide (sx ≤ 65536000)) && (decide (-65536000 ≤ sy) && decide (sy ≤ 65536000))) = a
    generalize sqB ax ay 6553600000 = b
    generalize wB spin (-1000) 1000 = c
    cases a <;> cases b <;> cases c <;> rfl
  rw [he]
  unfold Mov.v
  simp only
  cases e5 : sqB ax ay 6553600000 <;> cases e6 : wB spin (-1000) 1000
  all_goals
    have H5 : Hid (sqB ax ay 6553600000 = _) := e5
    have H6 : Hid (wB spin (-1000) 1000 = _) := e6
    clear e5 e6 he
    cases h1 : decide (-65536000 ≤ sx) <;> cases h2 : decide (sx ≤ 65536000) <;> cases h3 : decide (-65536000 ≤ sy) <;> cases h4 : decide (sy ≤ 65536000)
    all_goals
      go_enter Try.func57, Try.ntmps57
      go_wp2_with (first
        | (go_at_call 68; refine (spot03_c _ _ _).mono ?_; rintro e w1 ⟨rfl, hb1⟩; rw [H5.out]; obtain ⟨hc, hf, hz, hw⟩ := one_new hb1; have c4 := hc 4; clear hc hf)
        | (go_at_call 67; refine (in04_c _ _ _ _).mono ?_; rintro e w' ⟨rfl, rfl⟩; rw [H6.out]))
      go_ret
      first
        | exact ⟨rfl, hw⟩
        | exact ⟨rfl, (Below.refl _ _).alloc (Nat.le_refl _) _⟩

theorem body05_c (b : Bod) (w : World) :
    Calls Try.prog 32 #[.agg b.cells] w fun e w' => e = .returned (.bool b.ok) ∧ Below w.heap.size w w' := by
  obtain ⟨team, n, ⟨ax, ay, sx, sy, spin⟩, out⟩ := b
  unfold Bod.ok Bod.cells
  simp only
  cases e1 : wB team 0 1 <;> cases e2 : wB n 0 7 <;> cases e3 : (Mov.mk ax ay sx sy spin).ok
  all_goals
    have H1 : Hid (wB team 0 1 = _) := e1
    have H2 : Hid (wB n 0 7 = _) := e2
    have H3 : Hid ((Mov.mk ax ay sx sy spin).ok = _) := e3
    clear e1 e2 e3
    go_enter Try.func32, Try.ntmps32
    go_wp2_with (first
      | (go_at_call 56; refine (in05_c _ _ _ _).mono ?_; rintro e w' ⟨rfl, rfl⟩; first | rw [H1.out] | rw [H2.out])
      | (go_at_call 57; refine (moving04_c ⟨ax, ay, sx, sy, spin⟩ _).mono ?_; rintro e w1 ⟨rfl, hb1⟩; rw [H3.out]))
    go_ret
    first
      | exact ⟨rfl, ((Below.refl _ _).alloc (Nat.le_refl _) _).trans (hb1.mono (by simp))⟩
      | exact ⟨rfl, (Below.refl _ _).alloc (Nat.le_refl _) _⟩

theorem rbody_x (team n ax ay sx sy spin stx sty : Int) (bv : Value) (w : World) :
    Calls Try.prog 31 #[.agg #[.int .i64 team, .int .i64 n, .int .i64 ax, .int .i64 ay, .int .i64 sx, .int .i64 sy, .int .i64 spin, bv, .int .i64 stx, .int .i64 sty]] w
      fun e w' => e = .returned (.agg #[.int .i64 team, .int .i64 n, .int .i64 ax, .int .i64 ay, .int .i64 sx, .int .i64 sy, .int .i64 spin, .bool false]) ∧ Below w.heap.size w w' := by
  go_enter Try.func31, Try.ntmps31
  go_wp2_with fail
  exact bodyPost_ret (v := .agg #[.int .i64 team, .int .i64 n, .int .i64 ax, .int .i64 ay, .int .i64 sx, .int .i64 sy, .int .i64 spin, .bool false]) (by simp [results, Try.results31, go_sem]) rfl ⟨rfl, ((Below.refl _ _).alloc (Nat.le_refl _) _).alloc (by simp) _⟩

theorem rcode_c (b : Bool) (w : World) : Calls Try.prog 37 #[.bool b] w fun e w' => e = .returned (.int .i64 (errB b)) ∧ w = w' := by
  cases b
  all_goals
    go_enter Try.func37, Try.ntmps37
    go_wp2
    go_ret
    exact ⟨rfl, rfl⟩
end Go.Proofs.Ytleceelemogbcaa
