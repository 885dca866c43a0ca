/- Opening an argument: api.Call. -/
import Derived.Test.YtleceelemogbcaaSkF
import Derived.ProofKit
namespace Go.Proofs.Ytleceelemogbcaa
open Go.RowKit

theorem cells_int : Try.prog.cellsOf 3 = 1 := by kernel_rfl
theorem cells_fix : Try.prog.cellsOf 22 = 1 := by kernel_rfl
theorem cells_spot : Try.prog.cellsOf 24 = 2 := by kernel_rfl
theorem cells_moving : Try.prog.cellsOf 26 = 5 := by kernel_rfl
theorem cells_brooms : Try.prog.cellsOf 27 = 1 := by kernel_rfl
theorem cells_broom : Try.prog.cellsOf 108 = 3 := by kernel_rfl
theorem cells_call : Try.prog.cellsOf 29 = 10 := by kernel_rfl

theorem list2 {l : List Value} (h : l.length = 2) : ∃ a b, l = [a, b] := by
  match l, h with
  | [a, b], _ => exact ⟨a, b, rfl⟩
theorem list3 {l : List Value} (h : l.length = 3) : ∃ a b c, l = [a, b, c] := by
  match l, h with
  | [a, b, c], _ => exact ⟨a, b, c, rfl⟩
theorem list5 {l : List Value} (h : l.length = 5) : ∃ a b c d e, l = [a, b, c, d, e] := by
  match l, h with
  | [a, b, c, d, e], _ => exact ⟨a, b, c, d, e, rfl⟩
theorem list10 {l : List Value} (h : l.length = 10) : ∃ a b c d e f g i j k, l = [a, b, c, d, e, f, g, i, j, k] := by
  match l, h with
  | [a, b, c, d, e, f, g, i, j, k], _ => exact ⟨a, b, c, d, e, f, g, i, j, k, rfl⟩

section
variable {H : Type} {enc : TypeId × Value → H} {w : World} {base : Nat} {spare : Nat → Bool} {held : Bool} {fuel : Nat} {cs : List Value} {x : DataW H × List MemPlace}

theorem fld {P : Program} {n : Nat} {fs : Array Field} {xs : List (DataW H × List MemPlace)}
    (hf : ∀ (i : Nat) (f : Field), fs[i]? = some f → DataW.trod enc P w base spare held n f.type ((cs.drop f.offset).take (P.cellsOf f.type)) = xs[i]?) (hx : xs.length = fs.size) (i : Nat) (f : Field) (hi : fs[i]? = some f) :
    ∃ y, DataW.trod enc P w base spare held n f.type ((cs.drop f.offset).take (P.cellsOf f.type)) = some y := by
  have hlt : i < xs.length := by
    rw [hx]; exact (Array.getElem?_eq_some_iff.1 hi).1
  exact ⟨xs[i], by rw [hf i f hi, List.getElem?_eq_getElem hlt]⟩

theorem open_spot (h : DataW.trod enc Try.prog w base spare held fuel 24 cs = some x) : ∃ a b, cs = [.int .i64 a, .int .i64 b] := by
  obtain ⟨xs, n, _, _, hl, hx, hf⟩ := DataW.trod_struct Try.underlying24 h
  rw [cells_spot] at hl
  obtain ⟨a, b, rfl⟩ := list2 hl
  obtain ⟨y0, (f0 : DataW.trod enc Try.prog w base spare held n 22 ((List.drop 0 _).take (Try.prog.cellsOf 22)) = some y0)⟩ := fld hf hx 0 _ rfl
  obtain ⟨y1, (f1 : DataW.trod enc Try.prog w base spare held n 22 ((List.drop 1 _).take (Try.prog.cellsOf 22)) = some y1)⟩ := fld hf hx 1 _ rfl
  simp only [cells_fix, List.drop, List.take] at f0 f1
  obtain ⟨a, ha, -⟩ := DataW.trod_int Try.underlying22 f0
  obtain ⟨b, hb, -⟩ := DataW.trod_int Try.underlying22 f1
  simp only [List.cons.injEq, and_true] at ha hb
  subst ha; subst hb
  exact ⟨_, _, rfl⟩

theorem open_moving (h : DataW.trod enc Try.prog w base spare held fuel 26 cs = some x) : ∃ m : Mov, cs = [.int .i64 m.ax, .int .i64 m.ay, .int .i64 m.sx, .int .i64 m.sy, .int .i64 m.spin] := by
  obtain ⟨xs, n, _, _, hl, hx, hf⟩ := DataW.trod_struct Try.underlying26 h
  rw [cells_moving] at hl
  obtain ⟨a, b, c, d, e, rfl⟩ := list5 hl
  obtain ⟨y0, (f0 : DataW.trod enc Try.prog w base spare held n 24 ((List.drop 0 _).take (Try.prog.cellsOf 24)) = some y0)⟩ := fld hf hx 0 _ rfl
  obtain ⟨y1, (f1 : DataW.trod enc Try.prog w base spare held n 24 ((List.drop 2 _).take (Try.prog.cellsOf 24)) = some y1)⟩ := fld hf hx 1 _ rfl
  obtain ⟨y2, (f2 : DataW.trod enc Try.prog w base spare held n 3 ((List.drop 4 _).take (Try.prog.cellsOf 3)) = some y2)⟩ := fld hf hx 2 _ rfl
  simp only [cells_spot, cells_int, List.drop, List.take] at f0 f1 f2
  obtain ⟨ax, ay, h0⟩ := open_spot f0
  obtain ⟨sx, sy, h1⟩ := open_spot f1
  obtain ⟨sp, h2, -⟩ := DataW.trod_int Try.underlying3 f2
  simp only [List.cons.injEq, and_true] at h0 h1 h2
  obtain ⟨rfl, rfl⟩ := h0
  obtain ⟨rfl, rfl⟩ := h1
  subst h2
  exact ⟨⟨ax, ay, sx, sy, sp⟩, rfl⟩

theorem open_broom (h : DataW.trod enc Try.prog w base spare held fuel 108 cs = some x) : ∃ b : Brm, cs = [.int .i64 b.lo, .int .i64 b.hi, .int .i64 b.st] := by
  obtain ⟨xs, n, _, _, hl, hx, hf⟩ := DataW.trod_struct Try.underlying108 h
  rw [cells_broom] at hl
  obtain ⟨a, b, c, rfl⟩ := list3 hl
  obtain ⟨y0, (f0 : DataW.trod enc Try.prog w base spare held n 3 ((List.drop 0 _).take (Try.prog.cellsOf 3)) = some y0)⟩ := fld hf hx 0 _ rfl
  obtain ⟨y1, (f1 : DataW.trod enc Try.prog w base spare held n 3 ((List.drop 1 _).take (Try.prog.cellsOf 3)) = some y1)⟩ := fld hf hx 1 _ rfl
  obtain ⟨y2, (f2 : DataW.trod enc Try.prog w base spare held n 3 ((List.drop 2 _).take (Try.prog.cellsOf 3)) = some y2)⟩ := fld hf hx 2 _ rfl
  simp only [cells_int, List.drop, List.take] at f0 f1 f2
  obtain ⟨a, h0, -⟩ := DataW.trod_int Try.underlying3 f0
  obtain ⟨b, h1, -⟩ := DataW.trod_int Try.underlying3 f1
  obtain ⟨c, h2, -⟩ := DataW.trod_int Try.underlying3 f2
  simp only [List.cons.injEq, and_true] at h0 h1 h2
  subst h0; subst h1; subst h2
  exact ⟨⟨a, b, c⟩, rfl⟩

/-- The number in a cell. -/
def numAt (w : World) (b o : Nat) : Int := match w.cell? ⟨b, o, none⟩ with | some (.int _ n) => n | _ => 0

theorem numAt_of {w : World} {b o : Nat} {k : IntKind} {n : Int} (h : w.cell? ⟨b, o, none⟩ = some (.int k n)) : numAt w b o = n := by unfold numAt; rw [h]

theorem cells_at {w : World} {base n : Nat} {a : Addr} {cs : List Value} (h : w.cells? base a n = some cs) : cs.length = n ∧ ∀ i, i < n → w.cell? (a.add i) = cs[i]? := by
  unfold World.cells? at h
  split at h
  · exact ⟨by simpa using mapM_some_length h, fun i hi => mapM_some_get h i i (by simp [hi])⟩
  · cases h

theorem open_brooms {v : Value} (h : DataW.trod enc Try.prog w base spare held fuel 27 [v] = some x) : ∃ l, Brms w v l := by
  rcases DataW.trod_slice Try.underlying27 h with ⟨h0, -⟩ | ⟨a, len, cap, elems, rest, n, _, h0, _, hb, hl, hm, hlen, hel, _, _⟩
  · simp only [List.cons.injEq, and_true] at h0
    exact ⟨[], .inl ⟨none, 0, h0, rfl⟩⟩
  · simp only [List.cons.injEq, and_true] at h0
    subst h0
    rw [cells_broom] at hel
    have each : ∀ i, i < len → ∃ c : Brm, w.cell? (a.add (i * 3)) = some (.int .i64 c.lo) ∧ w.cell? (a.add (i * 3 + 1)) = some (.int .i64 c.hi) ∧ w.cell? (a.add (i * 3 + 2)) = some (.int .i64 c.st) := by
      intro i hi
      have he := hel i hi
      rw [List.getElem?_eq_getElem (by omega)] at he
      obtain ⟨cs, h1, h2⟩ := Option.bind_eq_some_iff.1 he
      obtain ⟨c, rfl⟩ := open_broom h2
      obtain ⟨-, hc⟩ := cells_at h1
      have c0 := hc 0 (by omega)
      have c1 := hc 1 (by omega)
      have c2 := hc 2 (by omega)
      rw [Addr.add_add] at c0 c1 c2
      exact ⟨c, c0, c1, c2⟩
    rcases Nat.eq_zero_or_pos len with h0 | hp
    · subst h0
      exact ⟨[], .inl ⟨some a, cap, rfl, rfl⟩⟩
    · obtain ⟨c, c0, -⟩ := each 0 hp
      obtain ⟨b, off, spot⟩ := a
      have hspot : spot = none := by simpa [Addr.add] using World.cell?_spot c0
      subst hspot
      have hadd : ∀ i, (Addr.mk b off none).add i = ⟨b, off + i, none⟩ := fun i => by unfold Addr.add; split <;> simp_all
      simp only [hadd] at each
      refine ⟨(List.range len).map fun i => ⟨numAt w b (off + i * 3), numAt w b (off + (i * 3 + 1)), numAt w b (off + (i * 3 + 2))⟩, .inr ⟨b, off, cap, by simp, by simpa using hp, ?_, ?_⟩⟩
      · have : maxLen = 9223372036854775807 := by rfl
        simp only [List.length_map, List.length_range]; omega
      · intro i hi
        simp only [List.length_map, List.length_range] at hi
        obtain ⟨c, c0, c1, c2⟩ := each i hi
        have hbat : bat ((List.range len).map fun i => (⟨numAt w b (off + i * 3), numAt w b (off + (i * 3 + 1)), numAt w b (off + (i * 3 + 2))⟩ : Brm)) i = c := by
          unfold bat
          rw [List.getD_eq_getElem?_getD, List.getElem?_eq_getElem (by simpa using hi)]
          simp only [List.getElem_map, List.getElem_range, Option.getD_some]
          rw [numAt_of c0, numAt_of c1, numAt_of c2]
        rw [hbat]
        exact ⟨c0, c1, c2⟩

theorem open_callc (h : DataW.trod enc Try.prog w base spare held fuel 29 cs = some x) : ∃ (c : Cal) (bv : Value), cs = (c.cells bv).toList ∧ Brms w bv c.l := by
  obtain ⟨xs, n, _, _, hl, hx, hf⟩ := DataW.trod_struct Try.underlying29 h
  rw [cells_call] at hl
  obtain ⟨a, b, c, d, e, f, g, i, j, k, rfl⟩ := list10 hl
  obtain ⟨y0, (f0 : DataW.trod enc Try.prog w base spare held n 3 ((List.drop 0 _).take (Try.prog.cellsOf 3)) = some y0)⟩ := fld hf hx 0 _ rfl
  obtain ⟨y1, (f1 : DataW.trod enc Try.prog w base spare held n 3 ((List.drop 1 _).take (Try.prog.cellsOf 3)) = some y1)⟩ := fld hf hx 1 _ rfl
  obtain ⟨y2, (f2 : DataW.trod enc Try.prog w base spare held n 26 ((List.drop 2 _).take (Try.prog.cellsOf 26)) = some y2)⟩ := fld hf hx 2 _ rfl
  obtain ⟨y3, (f3 : DataW.trod enc Try.prog w base spare held n 27 ((List.drop 7 _).take (Try.prog.cellsOf 27)) = some y3)⟩ := fld hf hx 3 _ rfl
  obtain ⟨y4, (f4 : DataW.trod enc Try.prog w base spare held n 24 ((List.drop 8 _).take (Try.prog.cellsOf 24)) = some y4)⟩ := fld hf hx 4 _ rfl
  simp only [cells_spot, cells_int, cells_moving, cells_brooms, List.drop, List.take] at f0 f1 f2 f3 f4
  obtain ⟨tm, h0, -⟩ := DataW.trod_int Try.underlying3 f0
  obtain ⟨nn, h1, -⟩ := DataW.trod_int Try.underlying3 f1
  obtain ⟨m, h2⟩ := open_moving f2
  obtain ⟨l, h3⟩ := open_brooms f3
  obtain ⟨sx, sy, h4⟩ := open_spot f4
  simp only [List.cons.injEq, and_true] at h0 h1 h2 h4
  subst h0; subst h1
  obtain ⟨rfl, rfl, rfl, rfl, rfl⟩ := h2
  obtain ⟨rfl, rfl⟩ := h4
  exact ⟨⟨tm, nn, m, l, sx, sy⟩, i, rfl, h3⟩

theorem agg_of {v : Value} {cs : Array Value} (h : v.cells.toList = cs.toList) (hn : 1 < cs.size) : v = .agg cs := by
  have h2 : v.cells = cs := by
    have := congrArg List.toArray h
    simpa using this
  cases v
  case agg a => simp only [Value.cells] at h2; rw [h2]
  all_goals
    exfalso
    simp only [Value.cells] at h2
    rw [← h2] at hn
    simp at hn

/-- A call, opened. -/
theorem open_call {v : Value} {d : DataW H} {ps : List MemPlace} (h : DataW.Trod enc Try.prog w base spare held 29 v d ps) : ∃ (c : Cal) (bv : Value), v = .agg (c.cells bv) ∧ Brms w bv c.l := by
  obtain ⟨fuel, hf⟩ := h
  obtain ⟨c, bv, hc, hl⟩ := open_callc hf
  exact ⟨c, bv, agg_of hc (by simp [Cal.cells]), hl⟩
end
end Go.Proofs.Ytleceelemogbcaa
