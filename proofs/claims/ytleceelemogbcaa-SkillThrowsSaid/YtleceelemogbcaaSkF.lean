/- Package skill: valid, body, CheckCall. -/
import Derived.Test.YtleceelemogbcaaCoC
import Derived.Test.YtleceelemogbcaaGlB
namespace Go.Proofs.Ytleceelemogbcaa
open Go.RowKit

/-- A call, whose brooms are the value bv and read as l. -/
structure Cal where
  team : Int
  n : Int
  m : Mov
  l : List Brm
  stx : Int
  sty : Int

/-- A call's cells, where the value of its brooms is bv. -/
def Cal.cells (c : Cal) (bv : Value) : Array Value := #[.int .i64 c.team, .int .i64 c.n, .int .i64 c.m.ax, .int .i64 c.m.ay, .int .i64 c.m.sx, .int .i64 c.m.sy, .int .i64 c.m.spin, bv, .int .i64 c.stx, .int .i64 c.sty]

/-- The body of a call. -/
def Cal.body (c : Cal) : Bod := ⟨c.team, c.n, c.m, false⟩

theorem sbody_c (c : Cal) (bv : Value) (w : World) :
    Calls Try.prog 34 #[.agg (c.cells bv)] w fun e w' => e = .returned (.agg c.body.cells) ∧ Below w.heap.size w w' := by
  obtain ⟨team, n, m, l, stx, sty⟩ := c
  obtain ⟨ax, ay, sx, sy, spin⟩ := m
  unfold Cal.cells Cal.body Bod.cells
  simp only
  go_enter Try.func34, Try.ntmps34
  go_wp2_with fail
  exact bodyPost_ret (v := .agg #[.int .i64 team, .int .i64 n, .int .i64 ax, .int .i64 ay, .int .i64 sx, .int .i64 sy, .int .i64 spin, .bool false]) (by simp [results, Try.results34, go_sem]) rfl ⟨rfl, ((Below.refl _ _).alloc (Nat.le_refl _) _).alloc (by simp) _⟩

theorem bad_nil (b : Bod) (h : b.out = false) : b.bad [] = !b.ok := by simp [Bod.bad, h]

theorem scene_one (b : Bod) (h : b.out = false) : sceneB [b] = b.ok := by
  simp [sceneB, bodsOk, bad_nil b h]

theorem svalid_c (b : Bod) (w : World) (h : b.out = false) :
    Calls Try.prog 33 #[.agg b.cells] w fun e w' => e = .returned (.bool b.ok) ∧ Below w.heap.size w w' := by
  obtain ⟨team, n, m, out⟩ := b
  obtain ⟨ax, ay, sx, sy, spin⟩ := m
  simp only at h
  subst h
  have hs := scene_one ⟨team, n, ⟨ax, ay, sx, sy, spin⟩, false⟩ rfl
  cases hb : (Bod.mk team n ⟨ax, ay, sx, sy, spin⟩ false).ok
  all_goals
    rw [hb] at hs
    have HS := Hid.mk' hs
    clear hs hb
    have hv : ∀ o t, Bods ((w.alloc o).alloc (.cells #[.int .i64 team, .int .i64 n, .int .i64 ax, .int .i64 ay, .int .i64 sx, .int .i64 sy, .int .i64 spin, .bool false] t)) (.slice (some ⟨w.heap.size + 1, 0, none⟩) 1 1) [⟨team, n, ⟨ax, ay, sx, sy, spin⟩, false⟩] := by
      intro o t
      refine .inr ⟨w.heap.size + 1, 0, 1, rfl, by simp, by simp, fun i x hx j hj => ?_⟩
      have hi : i = 0 := by
        rcases Nat.eq_zero_or_pos i with h | h
        · exact h
        · rw [List.getElem?_eq_none (by simp; omega)] at hx; simp at hx
      subst hi
      simp only [List.getElem?_cons_zero, Option.some.injEq] at hx
      subst hx
      simp [go_sem, Bod.cells]
    have HV := Hid.mk' hv
    clear hv
    unfold Bod.cells
    simp only
    go_enter Try.func33, Try.ntmps33
    go_wp2_with (go_at_call 58; go_loud (refine (ccheck_c [⟨team, n, ⟨ax, ay, sx, sy, spin⟩, false⟩] _ _ (HV.out _ _)).mono ?_); rintro e w1 ⟨rfl, hb⟩; rw [HS.out]; simp only [errB])
    go_ret
    exact ⟨rfl, ((Below.refl _ _).alloc (Nat.le_refl _) _).trans (((Below.refl _ _).alloc (by simp) _).trans (hb.mono (by simp <;> omega)))⟩
end Go.Proofs.Ytleceelemogbcaa
