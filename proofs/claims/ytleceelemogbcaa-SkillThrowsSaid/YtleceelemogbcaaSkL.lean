/- The chapter's first examples: alive. -/
import Derived.Test.YtleceelemogbcaaSkK
import Derived.Test.YtleceelemogbcaaSkE
namespace Go.Proofs.Ytleceelemogbcaa
open Go.RowKit

theorem few_c (w : World) : Calls Try.prog 23 #[] w fun e w' => e = .returned (.slice (some ⟨w.heap.size, 0, none⟩) 3 3) ∧ w' = w.alloc (.cells #[.int .i64 6, .int .i64 3, .int .i64 1] 3) := by
  go_enter Try.func23, Try.ntmps23
  go_wp2
  go_ret
  exact ⟨rfl, rfl⟩

/-- The call of the chapter's examples. -/
def drawC : Cal := ⟨0, 0, ⟨0, 0, 0, 1000, 0⟩, [], 10, 20⟩

theorem draw_c (w : World) : Calls Try.prog 24 #[] w fun e w' => e = .returned (.agg (drawC.cells (.slice none 0 0))) ∧ Below w.heap.size w w' := by
  go_enter Try.func24, Try.ntmps24
  go_wp2
  exact bodyPost_ret (v := .agg #[.int .i64 0, .int .i64 0, .int .i64 0, .int .i64 0, .int .i64 0, .int .i64 1000, .int .i64 0, .slice none 0 0, .int .i64 10, .int .i64 20]) (by simp [results, Try.results24, go_sem]) rfl ⟨rfl, (Below.refl _ _).alloc (Nat.le_refl _) _⟩

/-- A slice that was built. -/
theorem ints_built {w : World} {B : Nat} (xs : List Int) (h0 : 0 < xs.length) (hb : ∀ x ∈ xs, -9223372036854775808 ≤ x ∧ x ≤ 9223372036854775807) (hl : xs.length ≤ 100) (hc : ∀ i, i < xs.length → w.cell? ⟨B, i, none⟩ = some (.int .i64 (nth xs i))) :
    Ints w (.slice (some ⟨B, 0, none⟩) xs.length xs.length) xs :=
  .inr ⟨B, 0, xs.length, rfl, h0, by omega, fun i hi => by rw [Nat.zero_add]; exact hc i hi, hb⟩

theorem alive_vals : chOk [6, 3, 1] [1, 2] 2 = true ∧ chLow [6, 3, 1] [1, 2] 2 = 4 ∧ chHigh [6, 3, 1] [1, 2] 2 = 6 ∧ sumI [6, 3, 1] = 10 ∧ mnOk [6, 3, 1] [0, 65536, 131072] 2 = true ∧ mnLow [6, 3, 1] [0, 65536, 131072] 2 = 27306 ∧ mnHigh [6, 3, 1] [0, 65536, 131072] 2 = 49152 ∧ thErr drawC 0 = 0 ∧ thBody drawC 0 = ⟨0, 0, ⟨0, 0, -30, 940, 0⟩, false⟩ := by
  refine ⟨by decide +kernel, by decide +kernel, by decide +kernel, by decide +kernel, by decide +kernel, by decide +kernel, by decide +kernel, by decide +kernel, by rfl⟩

theorem ints_few {w w' : World} (hb : Below (w.heap.size + 1) (w.alloc (.cells #[.int .i64 6, .int .i64 3, .int .i64 1] 3)) w') : Ints w' (.slice (some ⟨w.heap.size, 0, none⟩) 3 3) [6, 3, 1] := by
  refine ints_built [6, 3, 1] (by simp) (by simp) (by simp) fun i hi => ?_
  rw [hb.cell (p := ⟨w.heap.size, i, none⟩) (by simp)]
  match i with
  | 0 => simp [go_sem, nth]
  | 1 => simp [go_sem, nth]
  | 2 => simp [go_sem, nth]
  | i + 3 => simp at hi; omega

theorem ints_12 {w w' : World} {t : TypeId} (hb : Below (w.heap.size + 1) (w.alloc (.cells #[.int .i64 1, .int .i64 2] t)) w') : Ints w' (.slice (some ⟨w.heap.size, 0, none⟩) 2 2) [1, 2] := by
  refine ints_built [1, 2] (by simp) (by simp) (by simp) fun i hi => ?_
  rw [hb.cell (p := ⟨w.heap.size, i, none⟩) (by simp)]
  match i with
  | 0 => simp [go_sem, nth]
  | 1 => simp [go_sem, nth]
  | i + 2 => simp at hi; omega

theorem ints_vals {w w' : World} {t : TypeId} (hb : Below (w.heap.size + 1) (w.alloc (.cells #[.int .i64 0, .int .i64 65536, .int .i64 131072] t)) w') : Ints w' (.slice (some ⟨w.heap.size, 0, none⟩) 3 3) [0, 65536, 131072] := by
  refine ints_built [0, 65536, 131072] (by simp) (by simp) (by simp) fun i hi => ?_
  rw [hb.cell (p := ⟨w.heap.size, i, none⟩) (by simp)]
  match i with
  | 0 => simp [go_sem, nth]
  | 1 => simp [go_sem, nth]
  | 2 => simp [go_sem, nth]
  | i + 3 => simp at hi; omega

theorem few_i (w : World) : Calls Try.prog 23 #[] w fun e w' => e = .returned (.slice (some ⟨w.heap.size, 0, none⟩) 3 3) ∧ Below w.heap.size w w' ∧ Ints w' (.slice (some ⟨w.heap.size, 0, none⟩) 3 3) [6, 3, 1] :=
  (few_c w).mono fun e w' ⟨h1, h2⟩ => by
    subst h2
    exact ⟨h1, (Below.refl _ _).alloc (Nat.le_refl _) _, ints_few (Below.refl _ _)⟩

set_option maxHeartbeats 2000000 in
theorem alive_c (w : World) : Calls Try.prog 7 #[] w fun e w' => e = .returned (.bool true) ∧ Below w.heap.size w w' := by
  obtain ⟨v1, v2, v3, v4, v5, v6, v7, v8, v9⟩ := alive_vals
  have HCH : Hid (∀ w v u, Ints w v [6, 3, 1] → Ints w u [1, 2] → Calls Try.prog 13 #[v, u, .int .i64 2] w fun e w' => e = .returned (.tuple #[oddsV 4 12, oddsV 6 12, .int .i64 0]) ∧ Below w.heap.size w w') := fun w v u h1 h2 => by
    have := chance_ok [6, 3, 1] [1, 2] 2 v u w h1 h2 v1
    rw [v2, v3, v4] at this; exact this
  have HMN : Hid (∀ w v u, Ints w v [6, 3, 1] → Ints w u [0, 65536, 131072] → Calls Try.prog 14 #[v, u, .int .i64 2] w fun e w' => e = .returned (.tuple #[.int .i64 27306, .int .i64 49152, .int .i64 0]) ∧ Below w.heap.size w w') := fun w v u h1 h2 => by
    have := mean_ok [6, 3, 1] [0, 65536, 131072] 2 v u w h1 h2 v5
    rw [v6, v7] at this; exact this
  have HTH : Hid (∀ w, Calls Try.prog 8 #[.agg (drawC.cells (.slice none 0 0)), .int .i64 0] w fun e w' => e = .returned (.tuple #[.agg #[.int .i64 0, .int .i64 0, .int .i64 0, .int .i64 0, .int .i64 (-30), .int .i64 940, .int .i64 0, .bool false], .int .i64 0]) ∧ Below w.heap.size w w') := fun w => by
    have := throw_c drawC (.slice none 0 0) 0 w (.inl ⟨none, 0, rfl, rfl⟩)
    rw [v8, v9] at this; exact this
  clear v1 v2 v3 v4 v5 v6 v7 v8 v9
  go_enter Try.func7, Try.ntmps7
  go_wp2_with fail
  refine (few_i _).mono ?_
  rintro e w1 ⟨rfl, hb1, hi1⟩
  have HI1 := Hid.mk' hi1
  clear hi1
  go_wp2_with fail
  refine (HCH.out _ _ _ ?_ ?_).mono ?_
  · exact HI1.out.below ((Below.refl _ _).alloc (Nat.le_refl _) _) (Nat.le_refl _)
  · exact ints_12 (Below.refl _ _)
  rintro e w2 ⟨rfl, hb2⟩
  have hB2 : Below w.heap.size w w2 := hb1.trans (((Below.refl _ _).alloc hb1.size _).trans (hb2.mono (by have := hb1.size; simp <;> omega)))
  clear hb1 hb2 HI1
  go_wp2_with fail
  refine (few_i _).mono ?_
  rintro e w3 ⟨rfl, hb3, hi3⟩
  rw [World.size_alloc, World.size_alloc] at hi3
  have HI3 := Hid.mk' hi3
  clear hi3
  go_wp2_with fail
  refine (HMN.out _ _ _ ?_ ?_).mono ?_
  · exact HI3.out.below ((Below.refl _ _).alloc (Nat.le_refl _) _) (Nat.le_refl _)
  · exact ints_vals (Below.refl _ _)
  rintro e w4 ⟨rfl, hb4⟩
  have hB4 := hb3.trans (((Below.refl _ w3).alloc hb3.size (.cells #[.int .i64 0, .int .i64 65536, .int .i64 131072] 22)).trans (hb4.mono (by have := hb3.size; simp at * <;> omega)))
  clear hb3 hb4 HI3
  go_wp2_with fail
  refine (draw_c _).mono ?_
  rintro e w5 ⟨rfl, hb5⟩
  go_wp2_with fail
  refine (HTH.out _).mono ?_
  rintro e w6 ⟨rfl, hb6⟩
  have hB6 := hB4.trans ((hb5.mono hB4.size).trans (hb6.mono (Nat.le_trans hB4.size hb5.size)))
  obtain ⟨hc1, hc2, hf1, hf2, hz⟩ := two_new hB6
  have a0 := hc1 0
  have a1 := hc1 1
  have b0 := hc2 0
  have b1 := hc2 1
  have hz0 : w2.heap.size < w6.heap.size := by omega
  have HB6 := Hid.mk' hB6
  clear hc1 hc2 hf1 hf2 hB6 hB4 hb5 hb6
  go_wp2_with fail
  go_ret
  refine ⟨rfl, ?_⟩
  exact (hB2.trans ((((Below.refl _ _).alloc hB2.size _).alloc (by have := hB2.size; simp <;> omega) _).trans (HB6.out.mono (by have := hB2.size; simp <;> omega)))).alloc (by have := hB2.size; omega) _
end Go.Proofs.Ytleceelemogbcaa
