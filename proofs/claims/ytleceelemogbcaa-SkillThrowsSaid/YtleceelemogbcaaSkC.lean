/- Package skill: Chance. -/
import Derived.Test.YtleceelemogbcaaSkB
namespace Go.Proofs.Ytleceelemogbcaa
open Go.RowKit

theorem Hid.mk' {p : Prop} (h : p) : Hid p := h

/-- How often the outcomes of an event were. -/
def ownS (cs ev : List Int) (k : Nat) : Int := sumTo (fun i => nth cs (nth ev i).toNat) k

/-- Is what Chance is asked valid? -/
def chOk (cs ev : List Int) (d : Int) : Bool := countB cs && (evB ev cs.length && wB d 1 1000)

/-- Odds. -/
abbrev oddsV (n d : Int) : Value := .agg #[.int .i64 n, .int .i64 d]

def chLow (cs ev : List Int) (d : Int) : Int := if ev.length = cs.length then sumI cs + d else ownS cs ev ev.length
def chHigh (cs ev : List Int) (d : Int) : Int := if ev.length = 0 then 0 else ownS cs ev ev.length + d

theorem chance_bad (cs ev : List Int) (d : Int) (v u : Value) (w : World) (hv : Ints w v cs) (hu : Ints w u ev) (h : chOk cs ev d = false) :
    Calls Try.prog 13 #[v, u, .int .i64 d] w fun e w' => e = .returned (.tuple #[oddsV 0 0, oddsV 0 0, .int .i64 2]) ∧ Below w.heap.size w w' := by
  have hal : ∀ o p, Below w.heap.size w ((w.alloc o).alloc p) := fun o p => ((Below.refl _ _).alloc (Nat.le_refl _) o).alloc (by simp) p
  have HV : Hid (∀ o p, Ints ((w.alloc o).alloc p) v cs) := fun o p => hv.below (hal o p) (Nat.le_refl _)
  have HU : Hid (∀ o p, Ints ((w.alloc o).alloc p) u ev) := fun o p => hu.below (hal o p) (Nat.le_refl _)
  have HA : Hid (∀ o p, Below w.heap.size w ((w.alloc o).alloc p)) := hal
  have hl := hv.len_le
  obtain ⟨p, cap, rfl⟩ := hv.shape
  clear hal hv hu
  unfold chOk at h
  cases h1 : countB cs
  · have H1 : Hid (countB cs = _) := h1
    clear h1 h
    go_enter Try.func13, Try.ntmps13
    go_wp2_with (go_at_call 38; refine (counted_c cs _ _ (HV.out _ _)).mono ?_; rintro e w' ⟨rfl, rfl⟩; rw [H1.out])
    exact bodyPost_ret (v := .tuple #[oddsV 0 0, oddsV 0 0, .int .i64 2]) (by simp [results, Try.results13, go_sem]) rfl ⟨rfl, HA.out _ _⟩
  · have H1 : Hid (countB cs = _) := h1
    rw [h1, Bool.true_and] at h
    clear h1
    cases h2 : evB ev cs.length
    · have H2 : Hid (evB ev cs.length = _) := h2
      clear h2 h
      go_enter Try.func13, Try.ntmps13
      go_wp2_with (first
        | (go_at_call 38; refine (counted_c cs _ _ (HV.out _ _)).mono ?_; rintro e w' ⟨rfl, rfl⟩; rw [H1.out])
        | (go_at_call 39; refine (event_c ev _ _ _ (HU.out _ _) (by omega) (by omega)).mono ?_; rintro e w' ⟨rfl, rfl⟩; rw [H2.out]))
      exact bodyPost_ret (v := .tuple #[oddsV 0 0, oddsV 0 0, .int .i64 2]) (by simp [results, Try.results13, go_sem]) rfl ⟨rfl, HA.out _ _⟩
    · have H2 : Hid (evB ev cs.length = _) := h2
      rw [h2, Bool.true_and] at h
      have H3 : Hid (wB d 1 1000 = _) := h
      clear h2 h
      go_enter Try.func13, Try.ntmps13
      go_wp2_with (first
        | (go_at_call 38; refine (counted_c cs _ _ (HV.out _ _)).mono ?_; rintro e w' ⟨rfl, rfl⟩; rw [H1.out])
        | (go_at_call 39; refine (event_c ev _ _ _ (HU.out _ _) (by omega) (by omega)).mono ?_; rintro e w' ⟨rfl, rfl⟩; rw [H2.out])
        | (go_at_call 25; refine (within_c _ _ _ _).mono ?_; rintro e w' ⟨rfl, rfl⟩; rw [H3.out]))
      exact bodyPost_ret (v := .tuple #[oddsV 0 0, oddsV 0 0, .int .i64 2]) (by simp [results, Try.results13, go_sem]) rfl ⟨rfl, HA.out _ _⟩

theorem ev_bd {cs ev : List Int} {n : Int} (h : evB ev n = true) : ∀ i, i < ev.length → 0 ≤ nth ev i ∧ nth ev i < n := by
  intro i hi
  unfold evB at h
  rw [Bool.not_eq_true', List.any_eq_false] at h
  have := h i (by simpa using hi)
  unfold evBad at this
  simp only [Bool.not_eq_true, Bool.or_eq_false_iff, Bool.not_eq_false', wB_iff] at this
  omega

theorem own_bd {cs ev : List Int} (hc : countB cs = true) (he : evB ev cs.length = true) : ∀ k, k ≤ ev.length → 0 ≤ ownS cs ev k ∧ ownS cs ev k ≤ 1000000 * k :=
  sumTo_bd fun j hj => countB_bd hc _ (by have := ev_bd (cs := cs) he j hj; omega)

/-- An event has no more outcomes than there are. -/
theorem ev_up {ev : List Int} {n : Int} (h : evB ev n = true) : ∀ i, i < ev.length → (i : Int) ≤ nth ev i
  | 0, hi => (ev_bd (cs := []) h 0 hi).1
  | i + 1, hi => by
    have ih := ev_up h i (by omega)
    unfold evB at h
    rw [Bool.not_eq_true', List.any_eq_false] at h
    have := h (i + 1) (by simpa using hi)
    unfold evBad at this
    simp only [Bool.not_eq_true, Bool.or_eq_false_iff, Nat.add_sub_cancel, Bool.and_eq_false_iff, decide_eq_false_iff_not] at this
    omega

theorem ev_len {ev : List Int} {n : Int} (h : evB ev n = true) (hn : 0 ≤ n) : (ev.length : Int) ≤ n := by
  rcases Nat.eq_zero_or_pos ev.length with h0 | h0
  · omega
  · have h1 := ev_up h (ev.length - 1) (by omega)
    have h2 := ev_bd (cs := []) h (ev.length - 1) (by omega)
    omega

set_option maxHeartbeats 1000000 in
theorem chance_ok (cs ev : List Int) (d : Int) (v u : Value) (w : World) (hv : Ints w v cs) (hu : Ints w u ev) (h : chOk cs ev d = true) :
    Calls Try.prog 13 #[v, u, .int .i64 d] w fun e w' => e = .returned (.tuple #[oddsV (chLow cs ev d) (sumI cs + d), oddsV (chHigh cs ev d) (sumI cs + d), .int .i64 0]) ∧ Below w.heap.size w w' := by
  have hal : ∀ o p, Below w.heap.size w ((w.alloc o).alloc p) := fun o p => ((Below.refl _ _).alloc (Nat.le_refl _) o).alloc (by simp) p
  have HV : Hid (∀ o p, Ints ((w.alloc o).alloc p) v cs) := fun o p => hv.below (hal o p) (Nat.le_refl _)
  have HU : Hid (∀ o p, Ints ((w.alloc o).alloc p) u ev) := fun o p => hu.below (hal o p) (Nat.le_refl _)
  have HA : Hid (∀ o p, Below w.heap.size w ((w.alloc o).alloc p)) := hal
  clear hal
  simp only [chOk, Bool.and_eq_true] at h
  obtain ⟨h1, h2, h3⟩ := h
  have H1 : Hid (countB cs = true) := h1
  have H2 : Hid (evB ev cs.length = true) := h2
  have H3 : Hid (wB d 1 1000 = true) := h3
  obtain ⟨d1, d2⟩ := (wB_iff _ _ _).1 h3
  obtain ⟨⟨n1, n2⟩, -⟩ := (countB_iff cs).1 h1
  have HS := sum_bd n2 (countB_bd h1)
  have HC : Hid (∀ j, j < cs.length → 0 ≤ nth cs j ∧ nth cs j ≤ 1000000) := countB_bd h1
  have HO : Hid (∀ k, k ≤ ev.length → 0 ≤ ownS cs ev k ∧ ownS cs ev k ≤ 1000000 * k) := own_bd h1 h2
  have HE : Hid (∀ i, i < ev.length → 0 ≤ nth ev i ∧ nth ev i < cs.length) := ev_bd (cs := cs) h2
  have hel := ev_len h2 (by omega)
  clear h1 h2 h3
  rcases hv with ⟨_, _, _, rfl⟩ | ⟨b, off, cap, rfl, g0, g1, g2, g3⟩
  · simp at n1
  have hb : b < w.heap.size := lt_of_cell (g2 0 g0)
  have G2 : Hid (∀ i, i < cs.length → w.cell? ⟨b, off + i, none⟩ = some (.int .i64 (nth cs i))) := g2
  clear g2 g3
  have HL : Hid (chLow cs ev d = if ev.length = cs.length then sumI cs + d else ownS cs ev ev.length) := rfl
  have HH : Hid (chHigh cs ev d = if ev.length = 0 then 0 else ownS cs ev ev.length + d) := rfl
  generalize hcn : cs.length = n at *
  have HCN : Hid (cs.length = n) := hcn
  clear hcn
  obtain ⟨HS1, HS2⟩ := HS
  have HSC : Hid (∀ w v, Ints w v cs → Calls Try.prog 40 #[v] w fun e w' => e = .returned (.int .i64 (sumI cs)) ∧ w = w') := fun w v hv => sum_c cs v w hv (by rw [HCN.out]; exact n2) (by rw [HCN.out]; exact HC.out)
  have HCC : Hid (∀ w v, Ints w v cs → Calls Try.prog 38 #[v] w fun e w' => e = .returned (.bool true) ∧ w = w') := fun w v hv => by have := counted_c cs v w hv; rw [H1.out] at this; exact this
  have HEC : Hid (∀ w v, Ints w v ev → Calls Try.prog 39 #[v, .int .i64 n] w fun e w' => e = .returned (.bool true) ∧ w = w') := fun w v hv => by have := event_c ev n v w hv (by omega) (by omega); rw [H2.out] at this; exact this
  generalize sumI cs = S at *
  rcases hu with ⟨q, cap', rfl, rfl⟩ | ⟨b', off', cap', rfl, k0, k1, k2, k3⟩
  · go_enter Try.func13, Try.ntmps13
    go_wp2_with (first
        | (go_at_call 38; refine (HCC.out _ _ (HV.out _ _)).mono ?_; rintro e w' ⟨rfl, rfl⟩)
        | (go_at_call 39; refine (HEC.out _ _ (HU.out _ _)).mono ?_; rintro e w' ⟨rfl, rfl⟩)
        | (go_at_call 25; refine (within_c _ _ _ _).mono ?_; rintro e w' ⟨rfl, rfl⟩; rw [H3.out])
        | (go_at_call 40; refine (HSC.out _ _ (HV.out _ _)).mono ?_; rintro e w' ⟨rfl, rfl⟩))
    have hLn : chLow cs [] d = 0 := by rw [HL.out, if_neg (by simp; omega)]; rfl
    have hHn : chHigh cs [] d = 0 := by rw [HH.out]; rfl
    have HLn := Hid.mk' hLn
    have HHn := Hid.mk' hHn
    clear hLn hHn
    have hbn : ((0 : Int) == (n : Int)) = false := by simp; omega
    go_loop [10, 12, 36] (fun s _ i => i = .int .i64 0 ∧ s = .int .i64 0) (fun _ _ _ => 0)
    case atStart => exact ⟨rfl, rfl⟩
    case round =>
      obtain ⟨rfl, rfl⟩ := hrel
      go_wp2_with fail
      go_region
      all_goals
        go_wp2_with fail
        exact bodyPost_ret (v := .tuple #[oddsV 0 (S + d), oddsV 0 (S + d), .int .i64 0]) (by simp [results, Try.results13, go_sem]) rfl ⟨by rw [HLn.out, HHn.out], (HA.out _ _).drew⟩
  · have hb' : b' < w.heap.size := lt_of_cell (k2 0 k0)
    have K2 : Hid (∀ i, i < ev.length → w.cell? ⟨b', off' + i, none⟩ = some (.int .i64 (nth ev i))) := k2
    clear k2 k3
    generalize ev.length = m at *
    go_enter Try.func13, Try.ntmps13
    go_wp2_with (first
        | (go_at_call 38; refine (HCC.out _ _ (HV.out _ _)).mono ?_; rintro e w' ⟨rfl, rfl⟩)
        | (go_at_call 39; refine (HEC.out _ _ (HU.out _ _)).mono ?_; rintro e w' ⟨rfl, rfl⟩)
        | (go_at_call 25; refine (within_c _ _ _ _).mono ?_; rintro e w' ⟨rfl, rfl⟩; rw [H3.out])
        | (go_at_call 40; refine (HSC.out _ _ (HV.out _ _)).mono ?_; rintro e w' ⟨rfl, rfl⟩))
    go_loop [10, 12, 36] (fun s _ i => ∃ k : Nat, k ≤ m ∧ i = .int .i64 k ∧ s = .int .i64 (ownS cs ev k)) (fun _ _ i => m - (intOf i).toNat)
    case atStart => exact ⟨0, Nat.zero_le _, rfl, rfl⟩
    case round =>
      obtain ⟨k, hk, rfl, rfl⟩ := hrel
      obtain ⟨b1, b2⟩ := HO.out k hk
      by_cases hlt : k < m
      · have hc := K2.out k hlt
        obtain ⟨x1, x2⟩ := HE.out k hlt
        have HES : Hid (ownS cs ev (k + 1) = ownS cs ev k + nth cs (nth ev k).toNat) := rfl
        generalize ownS cs ev k = s at *
        generalize nth ev k = x at *
        obtain ⟨y, rfl⟩ := Int.eq_ofNat_of_zero_le x1
        have hc2 := G2.out y (by omega)
        obtain ⟨z1, z2⟩ := HC.out y (by omega)
        simp only [Int.toNat_natCast] at HES
        generalize nth cs y = z at *
        go_wp2_with fail
        go_round
        case rel => exact ⟨k + 1, by omega, by go_num, by rw [HES.out]⟩
        case measure => simp [intOf]; omega
      · obtain rfl : k = m := by omega
        have hb0 : ((k : Int) == 0) = false := by simp; omega
        by_cases hkn : k = n
        · have hLn : chLow cs ev d = S + d := by rw [HL.out, if_pos hkn]
          have hHn : chHigh cs ev d = ownS cs ev k + d := by rw [HH.out, if_neg (by omega)]
          have HLn := Hid.mk' hLn
          have HHn := Hid.mk' hHn
          clear hLn hHn
          have hbn : ((k : Int) == (n : Int)) = true := by simp; omega
          generalize ownS cs ev k = s at *
          clear hkn
          go_wp2_with fail
          go_region
          all_goals
            go_wp2_with fail
            exact bodyPost_ret (v := .tuple #[oddsV (S + d) (S + d), oddsV (s + d) (S + d), .int .i64 0]) (by simp [results, Try.results13, go_sem]) rfl ⟨by rw [HLn.out, HHn.out], (HA.out _ _).drew⟩
        · have hLn : chLow cs ev d = ownS cs ev k := by rw [HL.out, if_neg hkn]
          have hHn : chHigh cs ev d = ownS cs ev k + d := by rw [HH.out, if_neg (by omega)]
          have HLn := Hid.mk' hLn
          have HHn := Hid.mk' hHn
          clear hLn hHn
          have hbn : ((k : Int) == (n : Int)) = false := by simp; omega
          generalize ownS cs ev k = s at *
          clear hkn
          go_wp2_with fail
          go_region
          all_goals
            go_wp2_with fail
            exact bodyPost_ret (v := .tuple #[oddsV s (S + d), oddsV (s + d) (S + d), .int .i64 0]) (by simp [results, Try.results13, go_sem]) rfl ⟨by rw [HLn.out, HHn.out], (HA.out _ _).drew⟩
end Go.Proofs.Ytleceelemogbcaa
