/- The document's Throw. -/
import Derived.Test.YtleceelemogbcaaRfC
namespace Go.Proofs.Ytleceelemogbcaa
open Go.RowKit

set_option maxHeartbeats 2000000 in
theorem rthrow_c (c : Cal) (bv : Value) (miss : Int) (w : World) (hl : Brms w bv c.l) :
    Calls Try.prog 9 #[.agg (c.cells bv), .int .i64 miss] w fun e w' => e = .returned (.tuple #[.agg (thBody c miss).cells, .int .i64 (thErr c miss)]) ∧ Below w.heap.size w w' := by
  have HC : Hid (∀ w', Below w.heap.size w w' → Calls Try.prog 29 #[.agg (c.cells bv)] w' fun e w'' => e = .returned (.bool c.ok) ∧ Below w'.heap.size w' w'') := fun w' hb => rcall_c c bv w' (hl.below hb (Nat.le_refl _))
  obtain ⟨q, cap, rfl⟩ := hl.shape
  clear hl
  cases e1 : c.ok
  case false =>
    have hB : thBody c miss = bod0 := by simp [thBody, thOk, e1]
    have hE : thErr c miss = 2 := by simp [thErr, thOk, e1]
    rw [hB, hE]
    rw [e1] at HC
    clear hB hE e1
    obtain ⟨team, n, ⟨ax, ay, sx, sy, spin⟩, l, stx, sty⟩ := c
    simp only [Cal.cells] at HC ⊢
    go_enter Try.func9, Try.ntmps9
    go_wp2_with (go_at_call 29; refine (HC.out _ (((Below.refl _ _).alloc (Nat.le_refl _) _).alloc (by simp) _)).mono ?_; rintro e wa ⟨rfl, hb1⟩; obtain ⟨hc1, hc2, hf1, hf2, hz⟩ := two_new hb1; have hbw : Below w.heap.size w wa := (((Below.refl _ _).alloc (Nat.le_refl _) _).alloc (by simp) _).trans (hb1.mono (by simp <;> omega)); have r0 := hc2 0; have f0 := hf2 0; have r1 := hc2 1; have f1 := hf2 1; have r2 := hc2 2; have f2 := hf2 2; have r3 := hc2 3; have f3 := hf2 3; have r4 := hc2 4; have f4 := hf2 4; have r5 := hc2 5; have f5 := hf2 5; have r6 := hc2 6; have f6 := hf2 6; have r7 := hc2 7; have f7 := hf2 7; have HC1 := Hid.mk' hc1; have HC2 := Hid.mk' hc2; have HF2 := Hid.mk' hf2; have a0 := hc1 0; have a1 := hc1 1; have a2 := hc1 2; have a3 := hc1 3; have a4 := hc1 4; have a5 := hc1 5; have a6 := hc1 6; have a7 := hc1 7; have a8 := hc1 8; have a9 := hc1 9; clear hc1 hc2 hf1 hf2)
    refine bodyPost_ret (v := .tuple #[.agg #[.int .i64 0, .int .i64 0, .int .i64 0, .int .i64 0, .int .i64 0, .int .i64 0, .int .i64 0, .bool false], .int .i64 2]) (by simp [results, Try.results9, go_sem, r0, r1, r2, r3, r4, r5, r6, r7]) rfl ⟨rfl, ?_⟩
    repeat (refine Below.setCell ?_ (by show w.heap.size ≤ w.heap.size + 1; omega) _)
    exact hbw
  cases e2 : wB miss 0 48
  case false =>
    have hB : thBody c miss = bod0 := by simp [thBody, thOk, e2]
    have hE : thErr c miss = 2 := by simp [thErr, thOk, e2]
    rw [hB, hE]
    rw [e1] at HC
    have H2 := Hid.mk' e2
    clear hB hE e1 e2
    obtain ⟨team, n, ⟨ax, ay, sx, sy, spin⟩, l, stx, sty⟩ := c
    simp only [Cal.cells] at HC ⊢
    go_enter Try.func9, Try.ntmps9
    go_wp2_with (first
      | (go_at_call 29; refine (HC.out _ (((Below.refl _ _).alloc (Nat.le_refl _) _).alloc (by simp) _)).mono ?_; rintro e wa ⟨rfl, hb1⟩; obtain ⟨hc1, hc2, hf1, hf2, hz⟩ := two_new hb1; have hbw : Below w.heap.size w wa := (((Below.refl _ _).alloc (Nat.le_refl _) _).alloc (by simp) _).trans (hb1.mono (by simp <;> omega)); have r0 := hc2 0; have f0 := hf2 0; have r1 := hc2 1; have f1 := hf2 1; have r2 := hc2 2; have f2 := hf2 2; have r3 := hc2 3; have f3 := hf2 3; have r4 := hc2 4; have f4 := hf2 4; have r5 := hc2 5; have f5 := hf2 5; have r6 := hc2 6; have f6 := hf2 6; have r7 := hc2 7; have f7 := hf2 7; have HC1 := Hid.mk' hc1; have HC2 := Hid.mk' hc2; have HF2 := Hid.mk' hf2; have a0 := hc1 0; have a1 := hc1 1; have a2 := hc1 2; have a3 := hc1 3; have a4 := hc1 4; have a5 := hc1 5; have a6 := hc1 6; have a7 := hc1 7; have a8 := hc1 8; have a9 := hc1 9; clear hc1 hc2 hf1 hf2)
      | (go_at_call 30; refine (in10_c _ _ _ _).mono ?_; rintro e w' ⟨rfl, rfl⟩; rw [H2.out]))
    refine bodyPost_ret (v := .tuple #[.agg #[.int .i64 0, .int .i64 0, .int .i64 0, .int .i64 0, .int .i64 0, .int .i64 0, .int .i64 0, .bool false], .int .i64 2]) (by simp [results, Try.results9, go_sem, r0, r1, r2, r3, r4, r5, r6, r7]) rfl ⟨rfl, ?_⟩
    repeat (refine Below.setCell ?_ (by show w.heap.size ≤ w.heap.size + 1; omega) _)
    exact hbw
  have H2 := Hid.mk' e2
  obtain ⟨m1, m2⟩ := (wB_iff _ _ _).1 e2
  have hth : thOk c miss = true := by simp [thOk, e1, e2]
  obtain ⟨⟨b1, b2⟩, ⟨b3, b4⟩, ⟨b5, b6⟩, b7, b8⟩ := Cal.ok_bd e1
  rw [e1] at HC
  clear e1 e2
  obtain ⟨k, hk⟩ : ∃ k, (c.thrown miss).ok = k := ⟨_, rfl⟩
  have hB : thBody c miss = if k then c.thrown miss else bod0 := by unfold thBody; rw [hth, hk, Bool.true_and]
  have hE : thErr c miss = if k then 0 else 4 := by unfold thErr; rw [hth, hk, if_pos rfl]
  rw [hB, hE]
  clear hB hE hth
  obtain ⟨team, n, ⟨ax, ay, sx, sy, spin⟩, l, stx, sty⟩ := c
  simp only at b1 b2 b3 b4 b5 b6 b7 b8
  obtain ⟨p1, w1, g1, g2, HP1⟩ := small_mul (n := miss % 7 - 3) (x := stx) (by omega) (by omega) b5 b6
  obtain ⟨p2, w2, g3, g4, HP2⟩ := small_mul (n := miss / 7 - 3) (x := sty) (by omega) (by omega) b7 b8
  have ht : Cal.thrown ⟨team, n, ⟨ax, ay, sx, sy, spin⟩, l, stx, sty⟩ miss = ⟨team, n, ⟨ax, ay, sx + p1, sy + p2, spin⟩, false⟩ := by
    unfold Cal.thrown; simp only; rw [HP1.out, HP2.out]
  rw [ht] at hk ⊢
  have HK := Hid.mk' hk
  clear hk ht HP1 HP2
  simp only [Cal.cells] at HC ⊢
  cases k
  · rw [if_neg (by simp), if_neg (by simp)]
    go_enter Try.func9, Try.ntmps9
    go_wp2_with (first
      | (go_at_call 29; refine (HC.out _ (((Below.refl _ _).alloc (Nat.le_refl _) _).alloc (by simp) _)).mono ?_; rintro e wa ⟨rfl, hb1⟩; obtain ⟨hc1, hc2, hf1, hf2, hz⟩ := two_new hb1; have hbw : Below w.heap.size w wa := (((Below.refl _ _).alloc (Nat.le_refl _) _).alloc (by simp) _).trans (hb1.mono (by simp <;> omega)); have r0 := hc2 0; have f0 := hf2 0; have r1 := hc2 1; have f1 := hf2 1; have r2 := hc2 2; have f2 := hf2 2; have r3 := hc2 3; have f3 := hf2 3; have r4 := hc2 4; have f4 := hf2 4; have r5 := hc2 5; have f5 := hf2 5; have r6 := hc2 6; have f6 := hf2 6; have r7 := hc2 7; have f7 := hf2 7; have HC1 := Hid.mk' hc1; have HC2 := Hid.mk' hc2; have HF2 := Hid.mk' hf2; have a0 := hc1 0; have a1 := hc1 1; have a2 := hc1 2; have a3 := hc1 3; have a4 := hc1 4; have a5 := hc1 5; have a6 := hc1 6; have a7 := hc1 7; have a8 := hc1 8; have a9 := hc1 9; clear hc1 hc2 hf1 hf2)
      | (go_at_call 30; refine (in10_c _ _ _ _).mono ?_; rintro e w' ⟨rfl, rfl⟩; rw [H2.out])
      | (go_at_call 31; refine (rbody_x team n ax ay sx sy spin stx sty _ _).mono ?_; rintro e wb ⟨rfl, hb2⟩; have hzb : w.heap.size + 1 < wb.heap.size := Nat.lt_of_lt_of_le hz hb2.size; have hbv : Below w.heap.size w wb := hbw.trans (hb2.mono hbw.size); have k1 := cells_kept HC1.out hb2 (by omega); have k2 := cells_kept HC2.out hb2 hz; have hf3 : ∀ i, wb.frozen? ⟨w.heap.size + 1, i, none⟩ = false := fun i => (hb2.frozen (p := ⟨w.heap.size + 1, i, none⟩) hz).trans (HF2.out i); clear r0 r1 r2 r3 r4 r5 r6 r7 f0 f1 f2 f3 f4 f5 f6 f7 a0 a1 a2 a3 a4 a5 a6 a7 a8 a9; have s8 : ∀ o, (wb.alloc o).cell? ⟨w.heap.size, 8, none⟩ = some (.int .i64 stx) := (fun o => (((Below.refl wb.heap.size wb).alloc (Nat.le_refl _) o).cell (p := ⟨w.heap.size, 8, none⟩) (by show w.heap.size < _; omega)).trans (k1 8)); have s9 : ∀ o, (wb.alloc o).cell? ⟨w.heap.size, 9, none⟩ = some (.int .i64 sty) := (fun o => (((Below.refl wb.heap.size wb).alloc (Nat.le_refl _) o).cell (p := ⟨w.heap.size, 9, none⟩) (by show w.heap.size < _; omega)).trans (k1 9)); have K2 := Hid.mk' k2; have F3 := Hid.mk' hf3; have hne : ¬ w.heap.size = wb.heap.size := (by omega); clear k1 k2 hf3)
      | (go_at_call 32; refine (body05_c ⟨team, n, ⟨ax, ay, sx + p1, sy + p2, spin⟩, false⟩ _).mono ?_; rintro e wd ⟨rfl, hb3⟩; rw [HK.out]; obtain ⟨hd, hdf, hdz, hdw⟩ := one_new hb3; have hbd : Below w.heap.size w wd := hbv.trans (hdw.mono hbv.size); have r0 := (hdw.cell (p := ⟨w.heap.size + 1, 0, none⟩) hzb).trans (K2.out 0); have e0 := hd 0; have f0 := (hdw.frozen (p := ⟨w.heap.size + 1, 0, none⟩) hzb).trans (F3.out 0); have r1 := (hdw.cell (p := ⟨w.heap.size + 1, 1, none⟩) hzb).trans (K2.out 1); have e1 := hd 1; have f1 := (hdw.frozen (p := ⟨w.heap.size + 1, 1, none⟩) hzb).trans (F3.out 1); have r2 := (hdw.cell (p := ⟨w.heap.size + 1, 2, none⟩) hzb).trans (K2.out 2); have e2 := hd 2; have f2 := (hdw.frozen (p := ⟨w.heap.size + 1, 2, none⟩) hzb).trans (F3.out 2); have r3 := (hdw.cell (p := ⟨w.heap.size + 1, 3, none⟩) hzb).trans (K2.out 3); have e3 := hd 3; have f3 := (hdw.frozen (p := ⟨w.heap.size + 1, 3, none⟩) hzb).trans (F3.out 3); have r4 := (hdw.cell (p := ⟨w.heap.size + 1, 4, none⟩) hzb).trans (K2.out 4); have e4 := hd 4; have f4 := (hdw.frozen (p := ⟨w.heap.size + 1, 4, none⟩) hzb).trans (F3.out 4); have r5 := (hdw.cell (p := ⟨w.heap.size + 1, 5, none⟩) hzb).trans (K2.out 5); have e5 := hd 5; have f5 := (hdw.frozen (p := ⟨w.heap.size + 1, 5, none⟩) hzb).trans (F3.out 5); have r6 := (hdw.cell (p := ⟨w.heap.size + 1, 6, none⟩) hzb).trans (K2.out 6); have e6 := hd 6; have f6 := (hdw.frozen (p := ⟨w.heap.size + 1, 6, none⟩) hzb).trans (F3.out 6); have r7 := (hdw.cell (p := ⟨w.heap.size + 1, 7, none⟩) hzb).trans (K2.out 7); have e7 := hd 7; have f7 := (hdw.frozen (p := ⟨w.heap.size + 1, 7, none⟩) hzb).trans (F3.out 7); clear hd hdf))
    refine bodyPost_ret (v := .tuple #[.agg #[.int .i64 0, .int .i64 0, .int .i64 0, .int .i64 0, .int .i64 0, .int .i64 0, .int .i64 0, .bool false], .int .i64 4]) (by simp [results, Try.results9, go_sem, r0, r1, r2, r3, r4, r5, r6, r7]) rfl ⟨rfl, ?_⟩
    repeat (refine Below.setCell ?_ (by show w.heap.size ≤ w.heap.size + 1; omega) _)
    exact hbd
  · rw [if_pos rfl, if_pos rfl]
    go_enter Try.func9, Try.ntmps9
    go_wp2_with (first
      | (go_at_call 29; refine (HC.out _ (((Below.refl _ _).alloc (Nat.le_refl _) _).alloc (by simp) _)).mono ?_; rintro e wa ⟨rfl, hb1⟩; obtain ⟨hc1, hc2, hf1, hf2, hz⟩ := two_new hb1; have hbw : Below w.heap.size w wa := (((Below.refl _ _).alloc (Nat.le_refl _) _).alloc (by simp) _).trans (hb1.mono (by simp <;> omega)); have r0 := hc2 0; have f0 := hf2 0; have r1 := hc2 1; have f1 := hf2 1; have r2 := hc2 2; have f2 := hf2 2; have r3 := hc2 3; have f3 := hf2 3; have r4 := hc2 4; have f4 := hf2 4; have r5 := hc2 5; have f5 := hf2 5; have r6 := hc2 6; have f6 := hf2 6; have r7 := hc2 7; have f7 := hf2 7; have HC1 := Hid.mk' hc1; have HC2 := Hid.mk' hc2; have HF2 := Hid.mk' hf2; have a0 := hc1 0; have a1 := hc1 1; have a2 := hc1 2; have a3 := hc1 3; have a4 := hc1 4; have a5 := hc1 5; have a6 := hc1 6; have a7 := hc1 7; have a8 := hc1 8; have a9 := hc1 9; clear hc1 hc2 hf1 hf2)
      | (go_at_call 30; refine (in10_c _ _ _ _).mono ?_; rintro e w' ⟨rfl, rfl⟩; rw [H2.out])
      | (go_at_call 31; refine (rbody_x team n ax ay sx sy spin stx sty _ _).mono ?_; rintro e wb ⟨rfl, hb2⟩; have hzb : w.heap.size + 1 < wb.heap.size := Nat.lt_of_lt_of_le hz hb2.size; have hbv : Below w.heap.size w wb := hbw.trans (hb2.mono hbw.size); have k1 := cells_kept HC1.out hb2 (by omega); have k2 := cells_kept HC2.out hb2 hz; have hf3 : ∀ i, wb.frozen? ⟨w.heap.size + 1, i, none⟩ = false := fun i => (hb2.frozen (p := ⟨w.heap.size + 1, i, none⟩) hz).trans (HF2.out i); clear r0 r1 r2 r3 r4 r5 r6 r7 f0 f1 f2 f3 f4 f5 f6 f7 a0 a1 a2 a3 a4 a5 a6 a7 a8 a9; have s8 : ∀ o, (wb.alloc o).cell? ⟨w.heap.size, 8, none⟩ = some (.int .i64 stx) := (fun o => (((Below.refl wb.heap.size wb).alloc (Nat.le_refl _) o).cell (p := ⟨w.heap.size, 8, none⟩) (by show w.heap.size < _; omega)).trans (k1 8)); have s9 : ∀ o, (wb.alloc o).cell? ⟨w.heap.size, 9, none⟩ = some (.int .i64 sty) := (fun o => (((Below.refl wb.heap.size wb).alloc (Nat.le_refl _) o).cell (p := ⟨w.heap.size, 9, none⟩) (by show w.heap.size < _; omega)).trans (k1 9)); have K2 := Hid.mk' k2; have F3 := Hid.mk' hf3; have hne : ¬ w.heap.size = wb.heap.size := (by omega); clear k1 k2 hf3)
      | (go_at_call 32; refine (body05_c ⟨team, n, ⟨ax, ay, sx + p1, sy + p2, spin⟩, false⟩ _).mono ?_; rintro e wd ⟨rfl, hb3⟩; rw [HK.out]; obtain ⟨hd, hdf, hdz, hdw⟩ := one_new hb3; have hbd : Below w.heap.size w wd := hbv.trans (hdw.mono hbv.size); have r0 := (hdw.cell (p := ⟨w.heap.size + 1, 0, none⟩) hzb).trans (K2.out 0); have e0 := hd 0; have f0 := (hdw.frozen (p := ⟨w.heap.size + 1, 0, none⟩) hzb).trans (F3.out 0); have r1 := (hdw.cell (p := ⟨w.heap.size + 1, 1, none⟩) hzb).trans (K2.out 1); have e1 := hd 1; have f1 := (hdw.frozen (p := ⟨w.heap.size + 1, 1, none⟩) hzb).trans (F3.out 1); have r2 := (hdw.cell (p := ⟨w.heap.size + 1, 2, none⟩) hzb).trans (K2.out 2); have e2 := hd 2; have f2 := (hdw.frozen (p := ⟨w.heap.size + 1, 2, none⟩) hzb).trans (F3.out 2); have r3 := (hdw.cell (p := ⟨w.heap.size + 1, 3, none⟩) hzb).trans (K2.out 3); have e3 := hd 3; have f3 := (hdw.frozen (p := ⟨w.heap.size + 1, 3, none⟩) hzb).trans (F3.out 3); have r4 := (hdw.cell (p := ⟨w.heap.size + 1, 4, none⟩) hzb).trans (K2.out 4); have e4 := hd 4; have f4 := (hdw.frozen (p := ⟨w.heap.size + 1, 4, none⟩) hzb).trans (F3.out 4); have r5 := (hdw.cell (p := ⟨w.heap.size + 1, 5, none⟩) hzb).trans (K2.out 5); have e5 := hd 5; have f5 := (hdw.frozen (p := ⟨w.heap.size + 1, 5, none⟩) hzb).trans (F3.out 5); have r6 := (hdw.cell (p := ⟨w.heap.size + 1, 6, none⟩) hzb).trans (K2.out 6); have e6 := hd 6; have f6 := (hdw.frozen (p := ⟨w.heap.size + 1, 6, none⟩) hzb).trans (F3.out 6); have r7 := (hdw.cell (p := ⟨w.heap.size + 1, 7, none⟩) hzb).trans (K2.out 7); have e7 := hd 7; have f7 := (hdw.frozen (p := ⟨w.heap.size + 1, 7, none⟩) hzb).trans (F3.out 7); clear hd hdf))
    refine bodyPost_ret (v := .tuple #[.agg #[.int .i64 team, .int .i64 n, .int .i64 ax, .int .i64 ay, .int .i64 (sx + p1), .int .i64 (sy + p2), .int .i64 spin, .bool false], .int .i64 0]) (by simp [results, Try.results9, go_sem, r0, r1, r2, r3, r4, r5, r6, r7]) rfl ⟨rfl, ?_⟩
    repeat (refine Below.setCell ?_ (by show w.heap.size ≤ w.heap.size + 1; omega) _)
    exact hbd
end Go.Proofs.Ytleceelemogbcaa
