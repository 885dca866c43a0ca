/- Package skill: Throw. -/
import Derived.Test.YtleceelemogbcaaSkI
namespace Go.Proofs.Ytleceelemogbcaa
open Go.RowKit

/-- A body of zeros. -/
def bod0 : Bod := ⟨0, 0, ⟨0, 0, 0, 0, 0⟩, false⟩

/-- Block D holds a body, and may be written. -/
def Holds (D : Nat) (b : Bod) (w : World) : Prop := (∀ i, w.cell? ⟨D, i, none⟩ = b.cells[i]?) ∧ (∀ i, w.frozen? ⟨D, i, none⟩ = false)

theorem Holds.of_block {D : Nat} {b : Bod} {w w' : World} (h : w'.heap[D]? = w.heap[D]?) (hw : Holds D b w) : Holds D b w' :=
  ⟨fun i => (World.cell?_of_block (w := w) (a := ⟨D, i, none⟩) h).trans (hw.1 i), fun i => (World.frozen?_of_block (w := w) (a := ⟨D, i, none⟩) h).trans (hw.2 i)⟩

theorem frozen_setCell {w : World} {a : Addr} {v : Value} {b : Addr} : (w.setCell a v).frozen? b = w.frozen? b := by
  simp [go_sem]

/-- A body that is stored cell by cell. -/
theorem holds_stored {w : World} {D : Nat} {b0 : Bod} (h : Holds D b0 w) (team n ax ay sx sy spin : Int) (out : Bool) :
    Holds D ⟨team, n, ⟨ax, ay, sx, sy, spin⟩, out⟩ ((((((((w.setCell ⟨D, 0, none⟩ (.int .i64 team)).setCell ⟨D, 1, none⟩ (.int .i64 n)).setCell ⟨D, 2, none⟩ (.int .i64 ax)).setCell ⟨D, 3, none⟩ (.int .i64 ay)).setCell ⟨D, 4, none⟩ (.int .i64 sx)).setCell ⟨D, 5, none⟩ (.int .i64 sy)).setCell ⟨D, 6, none⟩ (.int .i64 spin)).setCell ⟨D, 7, none⟩ (.bool out)) := by
  obtain ⟨h1, h2⟩ := h
  obtain ⟨t0, n0, ⟨ax0, ay0, sx0, sy0, sp0⟩, o0⟩ := b0
  have r0 := h1 0
  have r1 := h1 1
  have r2 := h1 2
  have r3 := h1 3
  have r4 := h1 4
  have r5 := h1 5
  have r6 := h1 6
  have r7 := h1 7
  simp only [Bod.cells, List.getElem?_toArray, List.getElem?_cons_zero, List.getElem?_cons_succ] at r0 r1 r2 r3 r4 r5 r6 r7
  refine ⟨fun i => ?_, fun i => by simp only [frozen_setCell]; exact h2 i⟩
  match i with
  | 0 => simp [go_sem, Bod.cells, r0]
  | 1 => simp [go_sem, Bod.cells, r1]
  | 2 => simp [go_sem, Bod.cells, r2]
  | 3 => simp [go_sem, Bod.cells, r3]
  | 4 => simp [go_sem, Bod.cells, r4]
  | 5 => simp [go_sem, Bod.cells, r5]
  | 6 => simp [go_sem, Bod.cells, r6]
  | 7 => simp [go_sem, Bod.cells, r7]
  | i + 8 =>
    have r8 := h1 (i + 8)
    simp only [Bod.cells] at r8 ⊢
    rw [cell_set_ne _ (by simp), cell_set_ne _ (by simp), cell_set_ne _ (by simp), cell_set_ne _ (by simp), cell_set_ne _ (by simp), cell_set_ne _ (by simp), cell_set_ne _ (by simp), cell_set_ne _ (by simp)]
    rw [r8]; simp

theorem exc_setCell (n D o : Nat) (w : World) (v : Value) : Exc n D w (w.setCell ⟨D, o, none⟩ v) :=
  ⟨rfl, rfl, rfl, by simp [World.setCell], fun _ _ hd => Below.heap_setCell _ _ _ _ hd⟩

theorem exc_stored (n D : Nat) (w : World) (team num ax ay sx sy spin : Int) (out : Bool) :
    Exc n D w ((((((((w.setCell ⟨D, 0, none⟩ (.int .i64 team)).setCell ⟨D, 1, none⟩ (.int .i64 num)).setCell ⟨D, 2, none⟩ (.int .i64 ax)).setCell ⟨D, 3, none⟩ (.int .i64 ay)).setCell ⟨D, 4, none⟩ (.int .i64 sx)).setCell ⟨D, 5, none⟩ (.int .i64 sy)).setCell ⟨D, 6, none⟩ (.int .i64 spin)).setCell ⟨D, 7, none⟩ (.bool out)) :=
  ((((((((exc_setCell n D 0 w _).trans (exc_setCell n D 1 _ _)).trans (exc_setCell n D 2 _ _)).trans (exc_setCell n D 3 _ _)).trans (exc_setCell n D 4 _ _)).trans (exc_setCell n D 5 _ _)).trans (exc_setCell n D 6 _ _)).trans (exc_setCell n D 7 _ _))

set_option maxHeartbeats 1000000 in
theorem throw1_c (b : Nat) (c : Cal) (bv : Value) (miss : Int) (w : World) (hc : c.ok = true) (hl : Brms w bv c.l) (h0 : 0 ≤ miss) (h1 : miss ≤ 48) (k : Bool) (hk : (c.thrown miss).ok = k)
    (hb : b + 2 < w.heap.size) (g0 : ∀ i, w.cell? ⟨b, i, none⟩ = (c.cells bv)[i]?) (g1 : w.cell? ⟨b + 1, 0, none⟩ = some (.int .i64 miss)) (g2 : Holds (b + 2) bod0 w) :
    Calls Try.prog 27 #[.pointer (some ⟨b, 0, none⟩), .pointer (some ⟨b + 1, 0, none⟩), .pointer (some ⟨b + 2, 0, none⟩)] w fun e w' =>
      (k = true → e = .returned (.tuple #[]) ∧ Holds (b + 2) (c.thrown miss) w') ∧ (k = false → e = .panicked (skPanic 4) ∧ Holds (b + 2) bod0 w') ∧ Exc w.heap.size (b + 2) w w' := by
  have HT : Hid (∀ w', Brms w' bv c.l → Calls Try.prog 28 #[.agg (c.cells bv), .int .i64 miss] w' fun e w'' => (k = true → e = .returned (.agg (c.thrown miss).cells)) ∧ (k = false → e = .panicked (skPanic 4)) ∧ Below w'.heap.size w' w'') := fun w' hl => sthrow_c c bv miss w' hc hl h0 h1 k hk
  have HL := Hid.mk' hl
  have HG := Hid.mk' g2
  obtain ⟨q, cap, rfl⟩ := hl.shape
  clear hl hk hc
  obtain ⟨x, hx⟩ : ∃ x, c.thrown miss = x := ⟨_, rfl⟩
  rw [hx] at HT ⊢
  clear hx
  obtain ⟨team, n, ⟨ax, ay, sx, sy, spin⟩, l, stx, sty⟩ := c
  obtain ⟨t0, n0, ⟨ax0, ay0, sx0, sy0, sp0⟩, o0⟩ := x
  simp only [Cal.cells, Bod.cells] at g0 HT HL
  have d0 := g0 0
  have d1 := g0 1
  have d2 := g0 2
  have d3 := g0 3
  have d4 := g0 4
  have d5 := g0 5
  have d6 := g0 6
  have d7 := g0 7
  have d8 := g0 8
  have d9 := g0 9
  clear g0 g2
  cases k
  · go_enter Try.func27, Try.ntmps27
    go_wp2_with (go_at_call 28; refine (HT.out _ HL.out).mono ?_; rintro e w1 ⟨-, hp, hb1⟩; obtain rfl := hp rfl)
    exact ⟨rfl, (fun h => (by cases h)), fun _ => ⟨rfl, HG.out.of_block (hb1.block _ hb)⟩, Exc.of hb1⟩
  · go_enter Try.func27, Try.ntmps27
    go_wp2_with (go_at_call 28; refine (HT.out _ HL.out).mono ?_; rintro e w1 ⟨hp, -, hb1⟩; obtain rfl := hp rfl; have HG1 := Hid.mk' (HG.out.of_block (hb1.block _ hb)); have r0 := HG1.out.1 0; have r1 := HG1.out.1 1; have r2 := HG1.out.1 2; have r3 := HG1.out.1 3; have r4 := HG1.out.1 4; have r5 := HG1.out.1 5; have r6 := HG1.out.1 6; have r7 := HG1.out.1 7; have f0 := HG1.out.2 0; have f1 := HG1.out.2 1; have f2 := HG1.out.2 2; have f3 := HG1.out.2 3; have f4 := HG1.out.2 4; have f5 := HG1.out.2 5; have f6 := HG1.out.2 6; have f7 := HG1.out.2 7; simp only [bod0, Bod.cells, List.getElem?_toArray, List.getElem?_cons_zero, List.getElem?_cons_succ] at r0 r1 r2 r3 r4 r5 r6 r7)
    go_end0
    have hst := holds_stored HG1.out t0 n0 ax0 ay0 sx0 sy0 sp0 o0
    have hex := exc_stored w.heap.size (b + 2) w1 t0 n0 ax0 ay0 sx0 sy0 sp0 o0
    have hex2 := (Exc.of (D := b + 2) hb1).trans hex
    clear hex HG1 r0 r1 r2 r3 r4 r5 r6 r7 f0 f1 f2 f3 f4 f5 f6 f7
    refine ⟨?_, ?_, hex2⟩
    · intro _
      exact ⟨rfl, hst⟩
    · intro h
      cases h
end Go.Proofs.Ytleceelemogbcaa
