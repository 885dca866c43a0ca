/- The document's functions on calls. -/
import Derived.Test.YtleceelemogbcaaRfB
namespace Go.Proofs.Ytleceelemogbcaa
open Go.RowKit

theorem call_leaves (b1 b2 b3 d1 d2 d3 d4 : Bool) : b1 = false ∨ (b1 = true ∧ b2 = false) ∨ (b1 = true ∧ b2 = true ∧ b3 = true) ∨ (b1 = true ∧ b2 = true ∧ b3 = false ∧ d1 = false) ∨ (b1 = true ∧ b2 = true ∧ b3 = false ∧ d1 = true ∧ d2 = false)
    ∨ (b1 = true ∧ b2 = true ∧ b3 = false ∧ d1 = true ∧ d2 = true ∧ d3 = false) ∨ (b1 = true ∧ b2 = true ∧ b3 = false ∧ d1 = true ∧ d2 = true ∧ d3 = true ∧ d4 = false) ∨ (b1 = true ∧ b2 = true ∧ b3 = false ∧ d1 = true ∧ d2 = true ∧ d3 = true ∧ d4 = true) := by
  cases b1 <;> cases b2 <;> cases b3 <;> cases d1 <;> cases d2 <;> cases d3 <;> cases d4 <;> simp

set_option maxHeartbeats 2000000 in
theorem rcall_c (c : Cal) (bv : Value) (w : World) (hl : Brms w bv c.l) :
    Calls Try.prog 29 #[.agg (c.cells bv)] w fun e w' => e = .returned (.bool c.ok) ∧ Below w.heap.size w w' := by
  obtain ⟨team, n, ⟨ax, ay, sx, sy, spin⟩, l, stx, sty⟩ := c
  have HL : Hid (∀ w', Below w.heap.size w w' → Brms w' bv l) := fun w' hb => hl.below hb (Nat.le_refl _)
  obtain ⟨q, cap, rfl⟩ := hl.shape
  clear hl
  simp only at HL
  generalize hln : l.length = ln at *
  clear hln
  obtain ⟨k, hk⟩ : ∃ k, Cal.ok ⟨team, n, ⟨ax, ay, sx, sy, spin⟩, l, stx, sty⟩ = k := ⟨_, rfl⟩
  rw [hk]
  have he : Cal.ok ⟨team, n, ⟨ax, ay, sx, sy, spin⟩, l, stx, sty⟩ = ((Bod.mk team n ⟨ax, ay, sx, sy, spin⟩ false).ok && (!(sx == 0 && sy == 0) && (broomsB l && ((decide (0 ≤ stx) && decide (stx ≤ 8192000)) && (decide (0 ≤ sty) && decide (sty ≤ 8192000)))))) := rfl
  rw [he] at hk
  clear he
  obtain ⟨b1, H1⟩ : ∃ b, Hid ((Bod.mk team n ⟨ax, ay, sx, sy, spin⟩ false).ok = b) := ⟨_, rfl⟩
  obtain ⟨b2, H2⟩ : ∃ b, Hid (broomsB l = b) := ⟨_, rfl⟩
  obtain ⟨b3, H3⟩ : ∃ b, Hid ((sx == 0 && sy == 0) = b) := ⟨_, rfl⟩
  rw [H1.out, H2.out, H3.out] at hk
  unfold Cal.cells
  simp only
  rcases call_leaves b1 b2 b3 (decide (0 ≤ stx)) (decide (stx ≤ 8192000)) (decide (0 ≤ sty)) (decide (sty ≤ 8192000)) with rfl | ⟨rfl, rfl⟩ | ⟨rfl, rfl, rfl⟩ | ⟨rfl, rfl, rfl, d1⟩ | ⟨rfl, rfl, rfl, d1, d2⟩ | ⟨rfl, rfl, rfl, d1, d2, d3⟩ | ⟨rfl, rfl, rfl, d1, d2, d3, d4⟩ | ⟨rfl, rfl, rfl, d1, d2, d3, d4⟩
  all_goals
    try rw [d1] at hk
    try rw [d2] at hk
    try rw [d3] at hk
    try rw [d4] at hk
    have HK := Hid.mk' hk
    clear hk
    go_enter Try.func29, Try.ntmps29
    go_wp2_with (first
      | (go_at_call 31; refine (rbody_x team n ax ay sx sy spin stx sty _ _).mono ?_; rintro e w1 ⟨rfl, hb1⟩; obtain ⟨hc, hf, hz, hw⟩ := one_new hb1; clear hf)
      | (go_at_call 32; refine (body05_c ⟨team, n, ⟨ax, ay, sx, sy, spin⟩, false⟩ _).mono ?_; rintro e w2 ⟨rfl, hb2⟩; rw [H1.out]; have k2 := cells_kept hc hb2 hz; have hw2 := hw.trans (hb2.mono hw.size); have hz2 : w.heap.size < w2.heap.size := Nat.lt_of_lt_of_le hz hb2.size; have a7 := k2 7; clear hc)
      | (go_at_call 53; refine (brooms04_c l _ _ (HL.out _ hw2)).mono ?_; rintro e w3 ⟨rfl, hb3⟩; rw [H2.out]; have k3 := cells_kept k2 hb3 hz2; have hw3 := hw2.trans (hb3.mono hw2.size); have hz3 : w.heap.size < w3.heap.size := Nat.lt_of_lt_of_le hz2 hb3.size; have a2 := k3 2; have a3 := k3 3; have a4 := k3 4; have a5 := k3 5; have a6 := k3 6; clear k2 a7)
      | (go_at_call 54; refine (rest04_c ⟨ax, ay, sx, sy, spin⟩ _).mono ?_; rintro e w4 ⟨rfl, hb4⟩; rw [H3.out]; have k4 := cells_kept k3 hb4 hz3; have hw4 := hw3.trans (hb4.mono hw3.size); have a8 := k4 8; have a9 := k4 9; clear k3 k4 a2 a3 a4 a5 a6))
    go_ret
    exact ⟨by rw [← HK.out]; simp, hw4⟩

theorem rcheckCall_c (c : Cal) (bv : Value) (w : World) (hl : Brms w bv c.l) :
    Calls Try.prog 11 #[.agg (c.cells bv)] w fun e w' => e = .returned (.int .i64 (errB c.ok)) ∧ Below w.heap.size w w' := by
  have HC : Hid (∀ w', Below w.heap.size w w' → Calls Try.prog 29 #[.agg (c.cells bv)] w' fun e w'' => e = .returned (.bool c.ok) ∧ Below w'.heap.size w' w'') := fun w' hb => rcall_c c bv w' (hl.below hb (Nat.le_refl _))
  obtain ⟨q, cap, rfl⟩ := hl.shape
  clear hl
  generalize c.ok = k at *
  generalize c.l.length = ln at *
  obtain ⟨team, n, ⟨ax, ay, sx, sy, spin⟩, l, stx, sty⟩ := c
  unfold Cal.cells at HC ⊢
  simp only at HC ⊢
  go_enter Try.func11, Try.ntmps11
  go_wp2_with (first
    | (go_at_call 29; refine (HC.out _ ((Below.refl _ _).alloc (Nat.le_refl _) _)).mono ?_; rintro e w1 ⟨rfl, hb1⟩; obtain ⟨hc, hf, hz, hw⟩ := one_new hb1; clear hc hf)
    | (go_at_call 37; refine (rcode_c _ _).mono ?_; rintro e w' ⟨rfl, rfl⟩))
  go_ret
  exact ⟨rfl, hw⟩
end Go.Proofs.Ytleceelemogbcaa
