/- Package skill: throw, Throw. -/
import Derived.Test.YtleceelemogbcaaSkH
namespace Go.Proofs.Ytleceelemogbcaa
open Go.RowKit

/-- The body of a miss. -/
def Cal.thrown (c : Cal) (miss : Int) : Bod := ⟨c.team, c.n, ⟨c.m.ax, c.m.ay, c.m.sx + (miss % 7 - 3) * c.stx, c.m.sy + (miss / 7 - 3) * c.sty, c.m.spin⟩, false⟩

theorem small_mul {n x : Int} (h0 : -3 ≤ n) (h1 : n ≤ 3) (h2 : 0 ≤ x) (h3 : x ≤ 8192000) : ∃ p, IntKind.i64.wrap (n * x) = p ∧ -24576000 ≤ p ∧ p ≤ 24576000 ∧ Hid (n * x = p) := by
  have : n = -3 ∨ n = -2 ∨ n = -1 ∨ n = 0 ∨ n = 1 ∨ n = 2 ∨ n = 3 := by omega
  refine ⟨n * x, ?_, ?_, ?_, rfl⟩
  · rw [IntKind.wrap_i64]
    rcases this with rfl | rfl | rfl | rfl | rfl | rfl | rfl <;> omega
  · rcases this with rfl | rfl | rfl | rfl | rfl | rfl | rfl <;> omega
  · rcases this with rfl | rfl | rfl | rfl | rfl | rfl | rfl <;> omega

theorem Cal.ok_bd {c : Cal} (h : c.ok = true) : (-65536000 ≤ c.m.sx ∧ c.m.sx ≤ 65536000) ∧ (-65536000 ≤ c.m.sy ∧ c.m.sy ≤ 65536000) ∧ (0 ≤ c.stx ∧ c.stx ≤ 8192000) ∧ (0 ≤ c.sty ∧ c.sty ≤ 8192000) := by
  simp only [Cal.ok, Bod.ok, Cal.body, Mov.ok, sqB, Bool.and_eq_true, wB_iff] at h
  omega

theorem sbody_x (team n ax ay sx sy spin stx sty : Int) (bv : Value) (w : World) :
    Calls Try.prog 34 #[.agg #[.int .i64 team, .int .i64 n, .int .i64 ax, .int .i64 ay, .int .i64 sx, .int .i64 sy, .int .i64 spin, bv, .int .i64 stx, .int .i64 sty]] w
      fun e w' => e = .returned (.agg #[.int .i64 team, .int .i64 n, .int .i64 ax, .int .i64 ay, .int .i64 sx, .int .i64 sy, .int .i64 spin, .bool false]) ∧ Below w.heap.size w w' :=
  sbody_c ⟨team, n, ⟨ax, ay, sx, sy, spin⟩, [], stx, sty⟩ bv w

set_option maxHeartbeats 1000000 in
/-- skill.shot.throw, up to its need. -/
theorem sthrow_c (c : Cal) (bv : Value) (miss : Int) (w : World) (hc : c.ok = true) (hl : Brms w bv c.l) (h0 : 0 ≤ miss) (h1 : miss ≤ 48) (k : Bool) (hk : (c.thrown miss).ok = k) :
    Calls Try.prog 28 #[.agg (c.cells bv), .int .i64 miss] w fun e w' => (k = true → e = .returned (.agg (c.thrown miss).cells)) ∧ (k = false → e = .panicked (skPanic 4)) ∧ Below w.heap.size w w' := by
  obtain ⟨⟨b1, b2⟩, ⟨b3, b4⟩, ⟨b5, b6⟩, b7, b8⟩ := Cal.ok_bd hc
  obtain ⟨q, cap, rfl⟩ := hl.shape
  clear hl hc
  obtain ⟨team, n, ⟨ax, ay, sx, sy, spin⟩, l, stx, sty⟩ := c
  simp only at b1 b2 b3 b4 b5 b6 b7 b8
  obtain ⟨p1, w1, g1, g2, HP1⟩ := small_mul (n := miss % 7 - 3) (x := stx) (by omega) (by omega) b5 b6
  obtain ⟨p2, w2, g3, g4, HP2⟩ := small_mul (n := miss / 7 - 3) (x := sty) (by omega) (by omega) b7 b8
  have ht : Cal.thrown ⟨team, n, ⟨ax, ay, sx, sy, spin⟩, l, stx, sty⟩ miss = ⟨team, n, ⟨ax, ay, sx + p1, sy + p2, spin⟩, false⟩ := by
    unfold Cal.thrown; simp only; rw [HP1.out, HP2.out]
  rw [ht] at hk ⊢
  have HK := Hid.mk' hk
  clear hk ht HP1 HP2
  unfold Cal.cells
  simp only
  cases k
  · go_enter Try.func28, Try.ntmps28
    go_wp2_with (first
      | (go_at_call 34; refine (sbody_x team n ax ay sx sy spin stx sty _ _).mono ?_; rintro e wa ⟨rfl, hb1⟩; obtain ⟨hc1, hc2, hf1, hf2, hz⟩ := two_new hb1; have hbw : Below w.heap.size w wa := (((Below.refl _ _).alloc (Nat.le_refl _) _).alloc (by simp) _).trans (hb1.mono (by simp <;> omega)); have s8 := hc1 8; have s9 := hc1 9; have hz0 : w.heap.size < wa.heap.size := (by omega); have HC2 := Hid.mk' hc2; have HF2 := Hid.mk' hf2; clear hc1 hc2 hf1 hf2)
      | (go_at_call 33; refine (svalid_c ⟨team, n, ⟨ax, ay, sx + p1, sy + p2, spin⟩, false⟩ _ rfl).mono ?_; rintro e wb ⟨rfl, hb2⟩; rw [HK.out]; obtain ⟨hd, hdf, hdz, hdw⟩ := one_new hb2; have r0 := (hdw.cell (p := ⟨w.heap.size + 1, 0, none⟩) hz).trans (HC2.out 0); have e0 := hd 0; have r1 := (hdw.cell (p := ⟨w.heap.size + 1, 1, none⟩) hz).trans (HC2.out 1); have e1 := hd 1; have r2 := (hdw.cell (p := ⟨w.heap.size + 1, 2, none⟩) hz).trans (HC2.out 2); have e2 := hd 2; have r3 := (hdw.cell (p := ⟨w.heap.size + 1, 3, none⟩) hz).trans (HC2.out 3); have e3 := hd 3; have r4 := (hdw.cell (p := ⟨w.heap.size + 1, 4, none⟩) hz).trans (HC2.out 4); have e4 := hd 4; have r5 := (hdw.cell (p := ⟨w.heap.size + 1, 5, none⟩) hz).trans (HC2.out 5); have e5 := hd 5; have r6 := (hdw.cell (p := ⟨w.heap.size + 1, 6, none⟩) hz).trans (HC2.out 6); have e6 := hd 6; have r7 := (hdw.cell (p := ⟨w.heap.size + 1, 7, none⟩) hz).trans (HC2.out 7); have e7 := hd 7; have rf0 := (hdw.frozen (p := ⟨w.heap.size + 1, 0, none⟩) hz).trans (HF2.out 0); have rf1 := (hdw.frozen (p := ⟨w.heap.size + 1, 1, none⟩) hz).trans (HF2.out 1); have rf2 := (hdw.frozen (p := ⟨w.heap.size + 1, 2, none⟩) hz).trans (HF2.out 2); have rf3 := (hdw.frozen (p := ⟨w.heap.size + 1, 3, none⟩) hz).trans (HF2.out 3); have rf4 := (hdw.frozen (p := ⟨w.heap.size + 1, 4, none⟩) hz).trans (HF2.out 4); have rf5 := (hdw.frozen (p := ⟨w.heap.size + 1, 5, none⟩) hz).trans (HF2.out 5); have rf6 := (hdw.frozen (p := ⟨w.heap.size + 1, 6, none⟩) hz).trans (HF2.out 6); have rf7 := (hdw.frozen (p := ⟨w.heap.size + 1, 7, none⟩) hz).trans (HF2.out 7); clear hd hdf)
      | (go_at_call 52; with_reducible refine (sneed_yes _ _).mono ?_; rintro e w' ⟨rfl, rfl⟩)
      | (go_at_call 52; with_reducible refine (sneed_no _ _).mono ?_; rintro e w' ⟨rfl, rfl⟩))
    exact ⟨rfl, (fun h => by cases h), fun _ => rfl, hbw.trans (hdw.mono hbw.size)⟩
  · go_enter Try.func28, Try.ntmps28
    go_wp2_with (first
      | (go_at_call 34; refine (sbody_x team n ax ay sx sy spin stx sty _ _).mono ?_; rintro e wa ⟨rfl, hb1⟩; obtain ⟨hc1, hc2, hf1, hf2, hz⟩ := two_new hb1; have hbw : Below w.heap.size w wa := (((Below.refl _ _).alloc (Nat.le_refl _) _).alloc (by simp) _).trans (hb1.mono (by simp <;> omega)); have s8 := hc1 8; have s9 := hc1 9; have hz0 : w.heap.size < wa.heap.size := (by omega); have HC2 := Hid.mk' hc2; have HF2 := Hid.mk' hf2; clear hc1 hc2 hf1 hf2)
      | (go_at_call 33; refine (svalid_c ⟨team, n, ⟨ax, ay, sx + p1, sy + p2, spin⟩, false⟩ _ rfl).mono ?_; rintro e wb ⟨rfl, hb2⟩; rw [HK.out]; obtain ⟨hd, hdf, hdz, hdw⟩ := one_new hb2; have r0 := (hdw.cell (p := ⟨w.heap.size + 1, 0, none⟩) hz).trans (HC2.out 0); have e0 := hd 0; have r1 := (hdw.cell (p := ⟨w.heap.size + 1, 1, none⟩) hz).trans (HC2.out 1); have e1 := hd 1; have r2 := (hdw.cell (p := ⟨w.heap.size + 1, 2, none⟩) hz).trans (HC2.out 2); have e2 := hd 2; have r3 := (hdw.cell (p := ⟨w.heap.size + 1, 3, none⟩) hz).trans (HC2.out 3); have e3 := hd 3; have r4 := (hdw.cell (p := ⟨w.heap.size + 1, 4, none⟩) hz).trans (HC2.out 4); have e4 := hd 4; have r5 := (hdw.cell (p := ⟨w.heap.size + 1, 5, none⟩) hz).trans (HC2.out 5); have e5 := hd 5; have r6 := (hdw.cell (p := ⟨w.heap.size + 1, 6, none⟩) hz).trans (HC2.out 6); have e6 := hd 6; have r7 := (hdw.cell (p := ⟨w.heap.size + 1, 7, none⟩) hz).trans (HC2.out 7); have e7 := hd 7; have rf0 := (hdw.frozen (p := ⟨w.heap.size + 1, 0, none⟩) hz).trans (HF2.out 0); have rf1 := (hdw.frozen (p := ⟨w.heap.size + 1, 1, none⟩) hz).trans (HF2.out 1); have rf2 := (hdw.frozen (p := ⟨w.heap.size + 1, 2, none⟩) hz).trans (HF2.out 2); have rf3 := (hdw.frozen (p := ⟨w.heap.size + 1, 3, none⟩) hz).trans (HF2.out 3); have rf4 := (hdw.frozen (p := ⟨w.heap.size + 1, 4, none⟩) hz).trans (HF2.out 4); have rf5 := (hdw.frozen (p := ⟨w.heap.size + 1, 5, none⟩) hz).trans (HF2.out 5); have rf6 := (hdw.frozen (p := ⟨w.heap.size + 1, 6, none⟩) hz).trans (HF2.out 6); have rf7 := (hdw.frozen (p := ⟨w.heap.size + 1, 7, none⟩) hz).trans (HF2.out 7); clear hd hdf)
      | (go_at_call 52; with_reducible refine (sneed_yes _ _).mono ?_; rintro e w' ⟨rfl, rfl⟩)
      | (go_at_call 52; with_reducible refine (sneed_no _ _).mono ?_; rintro e w' ⟨rfl, rfl⟩))
    refine bodyPost_ret (v := .agg #[.int .i64 team, .int .i64 n, .int .i64 ax, .int .i64 ay, .int .i64 (sx + p1), .int .i64 (sy + p2), .int .i64 spin, .bool false]) ?_ rfl ⟨fun _ => rfl, (fun h => (by cases h)), ?_⟩
    · simp [results, Try.results28, go_sem, r0, r1, r2, r3, r4, r5, r6, r7]
    · have hb := hbw.trans (hdw.mono hbw.size)
      repeat (refine Below.setCell ?_ (by show w.heap.size ≤ w.heap.size + 1; omega) _)
      exact hb
end Go.Proofs.Ytleceelemogbcaa
