/- Validity of bodies: package contact. -/
import Derived.Test.YtleceelemogbcaaGlA
import Derived.Outline
namespace Go.Proofs.Ytleceelemogbcaa
open Go.RowKit

/-- A body. -/
structure Bod where
  team : Int
  n : Int
  m : Mov
  out : Bool

/-- A body's cells. -/
def Bod.cells (b : Bod) : Array Value := #[.int .i64 b.team, .int .i64 b.n, .int .i64 b.m.ax, .int .i64 b.m.ay, .int .i64 b.m.sx, .int .i64 b.m.sy, .int .i64 b.m.spin, .bool b.out]

/-- Is a body valid, on its own? -/
def Bod.ok (b : Bod) : Bool := wB b.team 0 1 && (wB b.n 0 7 && b.m.ok)

/-- Is it at rest? -/
def Bod.rests (b : Bod) : Bool := b.m.sx == 0 && b.m.sy == 0

set_option maxHeartbeats 1000000 in
theorem bvalid_c (b : Bod) (w : World) :
    Calls Try.prog 69 #[.agg b.cells] w fun e w' => e = .returned (.bool b.ok) ∧ Below w.heap.size w w' := by
  obtain ⟨team, n, m, out⟩ := b
  obtain ⟨ax, ay, sx, sy, spin⟩ := m
  unfold Bod.ok Bod.cells
  simp only
  cases e1 : wB team 0 1
  · have H1 : Hid (wB team 0 1 = _) := e1
    clear e1
    go_enter Try.func69, Try.ntmps69
    go_wp2_with (go_at_call 74; refine (cwithin_c _ _ _ _).mono ?_; rintro e w' ⟨rfl, rfl⟩; rw [H1.out])
    go_ret
    exact ⟨rfl, (Below.refl _ _).alloc (Nat.le_refl _) _⟩
  have H1 : Hid (wB team 0 1 = _) := e1
  clear e1
  cases e2 : wB n 0 7
  · have H2 : Hid (wB n 0 7 = _) := e2
    clear e2
    go_enter Try.func69, Try.ntmps69
    go_wp2_with (go_at_call 74; refine (cwithin_c _ _ _ _).mono ?_; rintro e w' ⟨rfl, rfl⟩; first | rw [H1.out] | rw [H2.out])
    go_ret
    exact ⟨rfl, (Below.refl _ _).alloc (Nat.le_refl _) _⟩
  have H2 : Hid (wB n 0 7 = _) := e2
  clear e2
  cases e3 : (Mov.mk ax ay sx sy spin).ok
  all_goals
    have H3 : Hid ((Mov.mk ax ay sx sy spin).ok = _) := e3
    clear e3
    go_enter Try.func69, Try.ntmps69
    go_wp2_with (first
      | (go_at_call 74; refine (cwithin_c _ _ _ _).mono ?_; rintro e w' ⟨rfl, rfl⟩; first | rw [H1.out] | rw [H2.out])
      | (go_at_call 75; refine (gcheck_c ⟨ax, ay, sx, sy, spin⟩ _).mono ?_; rintro e w1 ⟨rfl, hb1⟩; rw [H3.out]; simp only [errB]))
    go_ret
    exact ⟨rfl, ((Below.refl _ _).alloc (Nat.le_refl _) _).trans (hb1.mono (by simp))⟩

theorem brests_c (b : Bod) (w : World) :
    Calls Try.prog 70 #[.agg b.cells] w fun e w' => e = .returned (.bool b.rests) ∧ Below w.heap.size w w' := by
  obtain ⟨team, n, m, out⟩ := b
  obtain ⟨ax, ay, sx, sy, spin⟩ := m
  unfold Bod.rests Bod.cells
  simp only
  go_enter Try.func70, Try.ntmps70
  go_wp2_with fail
  all_goals
    go_ret
    exact ⟨by simp [*], (Below.refl _ _).alloc (Nat.le_refl _) _⟩

/-- A stone's name as a key. -/
abbrev keyV (a b : Int) : Value := .agg #[.int .i64 a, .int .i64 b]

theorem equalIn_int (d : Nat) (a c : Int) (w : World) : (Op.equalIn (d + 1) 3 (.int .i64 a) (.int .i64 c)).run Try.prog w = .ok (a == c) w := by
  simp [Op.equalIn, run_underlying Try.underlying3]

theorem part_0 (x y : Value) (w : World) : (part 3 #[x, y] 0).run Try.prog w = .ok x w := by kernel_rfl
theorem part_1 (x y : Value) (w : World) : (part 3 #[x, y] 1).run Try.prog w = .ok y w := by kernel_rfl
theorem size_int (w : World) : (sizeOf 3).run Try.prog w = .ok 1 w := by kernel_rfl

theorem equalIn_key (d : Nat) (a b c e : Int) (w : World) : (Op.equalIn (d + 2) 121 (keyV a b) (keyV c e)).run Try.prog w = .ok (a == c && b == e) w := by
  have h1 := fun a c => equalIn_int d a c w
  rw [Op.equalIn]
  generalize Op.equalIn (d + 1) = f at *
  simp only [Sem.run_bind, run_underlying Try.underlying121, Result.andThen_ok, size_int, Std.Legacy.Range.forIn_eq_forIn_range', List.range', List.forIn_cons, List.forIn_nil]
  have hr : List.range' 0 2 = [0, 1] := rfl
  simp [hr, part_0, part_1, h1, Sem.run_bind]
  by_cases h2 : a = c
  · by_cases h3 : b = e
    · simp [h2, h3, part_0, part_1, h1, Sem.run_bind]
    · simp [h2, h3, part_0, part_1, h1, Sem.run_bind]
  · simp [h2, part_0, part_1, h1, Sem.run_bind]

theorem equal_key (a b c e : Int) (w : World) : (Op.equal 121 (keyV a b) (keyV c e)).run Try.prog w = .ok (a == c && b == e) w := by
  simp only [Op.equal, Op.maxDepth]
  exact equalIn_key 9998 a b c e w

theorem check_key (e : Bool) (a b : Int) (w : World) : (Instr.checkKey e 10000 121 (keyV a b)).run Try.prog w = .ok () w := by
  cases e <;> kernel_rfl
end Go.Proofs.Ytleceelemogbcaa
