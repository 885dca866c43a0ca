/- Package skill: Throw. -/
import Derived.Test.YtleceelemogbcaaSkJ
namespace Go.Proofs.Ytleceelemogbcaa
open Go.RowKit

/-- Is what Throw is asked valid? -/
def thOk (c : Cal) (miss : Int) : Bool := c.ok && wB miss 0 48

/-- The body of a miss, or zeros. -/
def thBody (c : Cal) (miss : Int) : Bod := if thOk c miss && (c.thrown miss).ok then c.thrown miss else bod0
/-- Its error. -/
def thErr (c : Cal) (miss : Int) : Int := if thOk c miss then (if (c.thrown miss).ok then 0 else 4) else 2

theorem three_new {w w1 : World} {c1 c2 c3 : Array Value} {t1 t2 t3 : TypeId} (hb : Below (((w.alloc (.cells c1 t1)).alloc (.cells c2 t2)).alloc (.cells c3 t3)).heap.size (((w.alloc (.cells c1 t1)).alloc (.cells c2 t2)).alloc (.cells c3 t3)) w1) :
    (∀ i, w1.cell? ⟨w.heap.size, i, none⟩ = c1[i]?) ∧ (∀ i, w1.cell? ⟨w.heap.size + 1, i, none⟩ = c2[i]?) ∧ (∀ i, w1.cell? ⟨w.heap.size + 2, i, none⟩ = c3[i]?) ∧ (∀ i, w1.frozen? ⟨w.heap.size + 2, i, none⟩ = false) ∧ w.heap.size + 2 < w1.heap.size ∧ Below w.heap.size w w1 := by
  have hs := hb.size
  simp at hs
  refine ⟨fun i => ?_, fun i => ?_, fun i => ?_, fun i => ?_, by omega, ((((Below.refl _ _).alloc (Nat.le_refl _) _).alloc (by simp) _).alloc (by simp <;> omega) _).trans (hb.mono (by simp <;> omega))⟩
  · rw [hb.cell (p := ⟨w.heap.size, i, none⟩) (by simp <;> omega)]; simp [go_sem]
  · rw [hb.cell (p := ⟨w.heap.size + 1, i, none⟩) (by simp <;> omega)]; simp [go_sem]
  · rw [hb.cell (p := ⟨w.heap.size + 2, i, none⟩) (by simp <;> omega)]; simp [go_sem]
  · rw [hb.frozen (p := ⟨w.heap.size + 2, i, none⟩) (by simp <;> omega)]; simp [go_sem]

set_option maxHeartbeats 2000000 in
theorem throw_c (c : Cal) (bv : Value) (miss : Int) (w : World) (hl : Brms w bv c.l) :
    Calls Try.prog 8 #[.agg (c.cells bv), .int .i64 miss] w fun e w' => e = .returned (.tuple #[.agg (thBody c miss).cells, .int .i64 (thErr c miss)]) ∧ Below w.heap.size w w' := by
  have HL : Hid (∀ w', Below w.heap.size w w' → Brms w' bv c.l) := fun w' hb => hl.below hb (Nat.le_refl _)
  obtain ⟨q, cap, rfl⟩ := hl.shape
  clear hl
  cases e1 : c.ok
  case false =>
    have hB : thBody c miss = bod0 := by simp [thBody, thOk, e1]
    have hE : thErr c miss = 2 := by simp [thErr, thOk, e1]
    rw [hB, hE]
    have HC : Hid (∀ w', Below w.heap.size w w' → Calls Try.prog 10 #[.agg (c.cells (.slice q c.l.length cap))] w' fun e w'' => e = .returned (.int .i64 2) ∧ Below w'.heap.size w' w'') := fun w' hb => by
      have := checkCall_c c _ w' (HL.out w' hb); rw [e1] at this; exact this
    clear hB hE e1 HL
    obtain ⟨team, n, ⟨ax, ay, sx, sy, spin⟩, l, stx, sty⟩ := c
    simp only [Cal.cells] at HC ⊢
    go_enter Try.func8, Try.ntmps8
    go_wp2_with (go_at_call 10; refine (HC.out _ ((((Below.refl _ _).alloc (Nat.le_refl _) _).alloc (by simp) _).alloc (by simp <;> omega) _)).mono ?_; rintro e w1 ⟨rfl, hb1⟩; obtain ⟨hc1, hc2, hc3, hf3, hz, hbw⟩ := three_new hb1; have m0 := hc2 0; have r0 := hc3 0; have r1 := hc3 1; have r2 := hc3 2; have r3 := hc3 3; have r4 := hc3 4; have r5 := hc3 5; have r6 := hc3 6; have r7 := hc3 7; have f0 := hf3 0; have f1 := hf3 1; have f2 := hf3 2; have f3 := hf3 3; have f4 := hf3 4; have f5 := hf3 5; have f6 := hf3 6; have f7 := hf3 7; have HC1 := Hid.mk' hc1; have HC3 := Hid.mk' hc3; have HF3 := Hid.mk' hf3; have HM := Hid.mk' m0; clear hc1 hc3 hf3)
    refine bodyPost_ret (v := .tuple #[.agg #[.int .i64 0, .int .i64 0, .int .i64 0, .int .i64 0, .int .i64 0, .int .i64 0, .int .i64 0, .bool false], .int .i64 2]) (by simp [results, Try.results8, go_sem, r0, r1, r2, r3, r4, r5, r6, r7]) rfl ⟨rfl, ?_⟩
    repeat (refine Below.setCell ?_ (by show w.heap.size ≤ w.heap.size + 2; omega) _)
    exact hbw
  have HC : Hid (∀ w', Below w.heap.size w w' → Calls Try.prog 10 #[.agg (c.cells (.slice q c.l.length cap))] w' fun e w'' => e = .returned (.int .i64 0) ∧ Below w'.heap.size w' w'') := fun w' hb => by
    have := checkCall_c c _ w' (HL.out w' hb); rw [e1] at this; exact this
  cases e2 : wB miss 0 48
  case false =>
    have hB : thBody c miss = bod0 := by simp [thBody, thOk, e2]
    have hE : thErr c miss = 2 := by simp [thErr, thOk, e2]
    rw [hB, hE]
    have H2 := Hid.mk' e2
    clear hB hE e1 e2 HL
    obtain ⟨team, n, ⟨ax, ay, sx, sy, spin⟩, l, stx, sty⟩ := c
    simp only [Cal.cells] at HC ⊢
    go_enter Try.func8, Try.ntmps8
    go_wp2_with (first
      | (go_at_call 10; refine (HC.out _ ((((Below.refl _ _).alloc (Nat.le_refl _) _).alloc (by simp) _).alloc (by simp <;> omega) _)).mono ?_; rintro e w1 ⟨rfl, hb1⟩; obtain ⟨hc1, hc2, hc3, hf3, hz, hbw⟩ := three_new hb1; have m0 := hc2 0; have r0 := hc3 0; have r1 := hc3 1; have r2 := hc3 2; have r3 := hc3 3; have r4 := hc3 4; have r5 := hc3 5; have r6 := hc3 6; have r7 := hc3 7; have f0 := hf3 0; have f1 := hf3 1; have f2 := hf3 2; have f3 := hf3 3; have f4 := hf3 4; have f5 := hf3 5; have f6 := hf3 6; have f7 := hf3 7; have HC1 := Hid.mk' hc1; have HC3 := Hid.mk' hc3; have HF3 := Hid.mk' hf3; have HM := Hid.mk' m0; clear hc1 hc3 hf3)
      | (go_at_call 25; refine (within_c _ _ _ _).mono ?_; rintro e w' ⟨rfl, rfl⟩; rw [H2.out]))
    refine bodyPost_ret (v := .tuple #[.agg #[.int .i64 0, .int .i64 0, .int .i64 0, .int .i64 0, .int .i64 0, .int .i64 0, .int .i64 0, .bool false], .int .i64 2]) (by simp [results, Try.results8, go_sem, r0, r1, r2, r3, r4, r5, r6, r7]) rfl ⟨rfl, ?_⟩
    repeat (refine Below.setCell ?_ (by show w.heap.size ≤ w.heap.size + 2; omega) _)
    exact hbw
  have H2 := Hid.mk' e2
  obtain ⟨m1, m2⟩ := (wB_iff _ _ _).1 e2
  have hth : thOk c miss = true := by simp [thOk, e1, e2]
  have HE1 := Hid.mk' e1
  have HTRY : Hid (∀ w1, Below w.heap.size w w1 → w.heap.size + 2 < w1.heap.size → (∀ i, w1.cell? ⟨w.heap.size, i, none⟩ = (c.cells (.slice q c.l.length cap))[i]?) → w1.cell? ⟨w.heap.size + 1, 0, none⟩ = some (.int .i64 miss) → Holds (w.heap.size + 2) bod0 w1 →
      Calls Try.prog 26 #[.func (.func 27) #[] #[.pointer (some ⟨w.heap.size, 0, none⟩), .pointer (some ⟨w.heap.size + 1, 0, none⟩), .pointer (some ⟨w.heap.size + 2, 0, none⟩)]] w1 fun e w' => e = .returned (.int .i64 (thErr c miss)) ∧ Exc w1.heap.size (w.heap.size + 2) w1 w' ∧ Holds (w.heap.size + 2) (thBody c miss) w') := by
    intro w1 hb1 hz hc1 hm hh
    have hen : ∀ args w, (callFunc 27 args).run Try.prog w = .ok (.enter 27 args) w := enters_of Try.func27 (by kernel_rfl) rfl
    cases hk : (c.thrown miss).ok
    · have hB : thBody c miss = bod0 := by unfold thBody; rw [hk, Bool.and_false]; rfl
      have hE : thErr c miss = 4 := by unfold thErr; rw [hth, hk]; rfl
      rw [hB, hE]
      refine stried_err 27 _ (w.heap.size + 2) 4 (Holds (w.heap.size + 2) bod0) hen w1 hz (fun a b h => Holds.of_block h) fun w2 hb2 => ?_
      refine (throw1_c w.heap.size c (.slice q c.l.length cap) miss w2 HE1.out (HL.out _ (hb1.trans (hb2.mono hb1.size))) m1 m2 false hk (Nat.lt_of_lt_of_le hz hb2.size) (cells_kept hc1 hb2 (by omega)) ((hb2.cell (p := ⟨w.heap.size + 1, 0, none⟩) (by show w.heap.size + 1 < _; omega)).trans hm) (hh.of_block (hb2.block _ hz))).mono ?_
      rintro e w3 ⟨-, h3, h4⟩
      exact ⟨(h3 rfl).1, h4, (h3 rfl).2⟩
    · have hB : thBody c miss = c.thrown miss := by unfold thBody; rw [hk, hth]; rfl
      have hE : thErr c miss = 0 := by unfold thErr; rw [hth, hk]; rfl
      rw [hB, hE]
      refine stried_ok 27 _ (w.heap.size + 2) (Holds (w.heap.size + 2) (c.thrown miss)) hen w1 hz (fun a b h => Holds.of_block h) fun w2 hb2 => ?_
      refine (throw1_c w.heap.size c (.slice q c.l.length cap) miss w2 HE1.out (HL.out _ (hb1.trans (hb2.mono hb1.size))) m1 m2 true hk (Nat.lt_of_lt_of_le hz hb2.size) (cells_kept hc1 hb2 (by omega)) ((hb2.cell (p := ⟨w.heap.size + 1, 0, none⟩) (by show w.heap.size + 1 < _; omega)).trans hm) (hh.of_block (hb2.block _ hz))).mono ?_
      rintro e w3 ⟨h3, -, h4⟩
      exact ⟨(h3 rfl).1, h4, (h3 rfl).2⟩
  clear hth e1 e2 HL HE1 m1 m2
  generalize thErr c miss = E at *
  generalize thBody c miss = X at *
  obtain ⟨team, n, ⟨ax, ay, sx, sy, spin⟩, l, stx, sty⟩ := c
  obtain ⟨t0, n0, ⟨ax0, ay0, sx0, sy0, sp0⟩, o0⟩ := X
  have hmf : ∀ (fn : Fn) (first cap : Array Value) (w : World), (Instr.makeFunc fn first cap).run Try.prog w = .ok (.func fn first cap) w := fun _ _ _ _ => rfl
  simp only [Cal.cells, Bod.cells] at HC HTRY ⊢
  go_enter Try.func8, Try.ntmps8
  go_wp2_with (first
    | (go_at_call 10; refine (HC.out _ ((((Below.refl _ _).alloc (Nat.le_refl _) _).alloc (by simp) _).alloc (by simp <;> omega) _)).mono ?_; rintro e w1 ⟨rfl, hb1⟩; obtain ⟨hc1, hc2, hc3, hf3, hz, hbw⟩ := three_new hb1; have m0 := hc2 0; have r0 := hc3 0; have r1 := hc3 1; have r2 := hc3 2; have r3 := hc3 3; have r4 := hc3 4; have r5 := hc3 5; have r6 := hc3 6; have r7 := hc3 7; have f0 := hf3 0; have f1 := hf3 1; have f2 := hf3 2; have f3 := hf3 3; have f4 := hf3 4; have f5 := hf3 5; have f6 := hf3 6; have f7 := hf3 7; have HC1 := Hid.mk' hc1; have HC3 := Hid.mk' hc3; have HF3 := Hid.mk' hf3; have HM := Hid.mk' m0; clear hc1 hc3 hf3)
    | (go_at_call 25; refine (within_c _ _ _ _).mono ?_; rintro e w' ⟨rfl, rfl⟩; rw [H2.out])
    | (go_at_call 26; refine (HTRY.out _ hbw hz HC1.out HM.out ⟨HC3.out, HF3.out⟩).mono ?_; rintro e w2 ⟨rfl, hx2, hh2⟩; clear r0 r1 r2 r3 r4 r5 r6 r7 f0 f1 f2 f3 f4 f5 f6 f7 m0; have r0 := hh2.1 0; have r1 := hh2.1 1; have r2 := hh2.1 2; have r3 := hh2.1 3; have r4 := hh2.1 4; have r5 := hh2.1 5; have r6 := hh2.1 6; have r7 := hh2.1 7; have f0 := hh2.2 0; have f1 := hh2.2 1; have f2 := hh2.2 2; have f3 := hh2.2 3; have f4 := hh2.2 4; have f5 := hh2.2 5; have f6 := hh2.2 6; have f7 := hh2.2 7; simp only [Bod.cells, List.getElem?_toArray, List.getElem?_cons_zero, List.getElem?_cons_succ] at r0 r1 r2 r3 r4 r5 r6 r7))
  refine bodyPost_ret (v := .tuple #[.agg #[.int .i64 t0, .int .i64 n0, .int .i64 ax0, .int .i64 ay0, .int .i64 sx0, .int .i64 sy0, .int .i64 sp0, .bool o0], .int .i64 E]) (by simp [results, Try.results8, go_sem, r0, r1, r2, r3, r4, r5, r6, r7]) rfl ⟨rfl, ?_⟩
  have hxb : Below w.heap.size w w2 := hbw.trans ((hx2.mono hbw.size).below (by omega))
  repeat (refine Below.setCell ?_ (by show w.heap.size ≤ w.heap.size + 2; omega) _)
  exact hxb
end Go.Proofs.Ytleceelemogbcaa
