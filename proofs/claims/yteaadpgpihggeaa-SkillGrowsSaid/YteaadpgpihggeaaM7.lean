/- Parts of the proof, in build order. -/
import Derived.Test.YteaadpgpihggeaaM6
import Derived.Deep.QuietTactic
import Derived.BigQuiet
import Derived.Test.YteaadpgpihggeaaM5
import Derived.Test.YteaadpgpihggeaaProg
import Derived.WalkKit
import Derived.Outline
import Derived.Maps.Own
namespace Go.Proofs.Yteaadpgpihggeaa
open Go.RowKit
def sumTo (f : Nat → Int) : Nat → Int
  | 0 => 0
  | k + 1 => sumTo f k + f k
theorem sumTo_bd {f : Nat → Int} {M : Int} {n : Nat} (h : ∀ j, j < n → 0 ≤ f j ∧ f j ≤ M) : ∀ k, k ≤ n → 0 ≤ sumTo f k ∧ sumTo f k ≤ M * k
  | 0, _ => by simp [sumTo]
  | k + 1, hk => by
    obtain ⟨a, b⟩ := sumTo_bd h k (by omega)
    obtain ⟨c, d⟩ := h k (by omega)
    have e : M * ((k + 1 : Nat) : Int) = M * k + M := by rw [Int.natCast_add, Int.mul_add]; simp
    rw [e]
    simp only [sumTo]
    omega
def sumI (xs : List Int) : Int := sumTo (nth xs) xs.length
theorem countB_bd {xs : List Int} (h : countB xs = true) : ∀ j, j < xs.length → 0 ≤ nth xs j ∧ nth xs j ≤ 1000000 :=
  fun _ hj => ((countB_iff xs).1 h).2 _ (getD_mem hj)
theorem sum_bd {xs : List Int} (hn : xs.length ≤ 49) (h : ∀ j, j < xs.length → 0 ≤ nth xs j ∧ nth xs j ≤ 1000000) : 0 ≤ sumI xs ∧ sumI xs ≤ 49000000 := by
  obtain ⟨a, b⟩ := sumTo_bd h xs.length (Nat.le_refl _)
  unfold sumI
  omega
set_option maxHeartbeats 1000000 in
theorem sum_c (xs : List Int) (v : Value) (w : World) (hv : Ints w v xs) (hn : xs.length ≤ 49) (h : ∀ j, j < xs.length → 0 ≤ nth xs j ∧ nth xs j ≤ 1000000) :
    Calls Try.prog 21 #[v] w fun e w' => e = .returned (.int .i64 (sumI xs)) ∧ w = w' := by
  rcases hv with ⟨q, cap, rfl, rfl⟩ | ⟨b, off, cap, rfl, h0, h1, h2, h3⟩
  · go_enter Try.func21, Try.ntmps21
    go_wp2_with fail
    go_loop [3, 5, 8] (fun n _ i => i = .int .i64 0 ∧ n = .int .i64 0) (fun _ _ _ => 0)
    case atStart => exact ⟨rfl, rfl⟩
    case round =>
      obtain ⟨rfl, rfl⟩ := hrel
      go_wp2_with fail
      go_ret
      exact ⟨rfl, rfl⟩
  · have H2 : Hid (∀ i, i < xs.length → w.cell? ⟨b, off + i, none⟩ = some (.int .i64 (nth xs i))) := h2
    have HB : Hid (∀ k, k ≤ xs.length → 0 ≤ sumTo (nth xs) k ∧ sumTo (nth xs) k ≤ 1000000 * k) := sumTo_bd h
    have HX : Hid (∀ j, j < xs.length → 0 ≤ nth xs j ∧ nth xs j ≤ 1000000) := h
    have HS : Hid (sumI xs = sumTo (nth xs) xs.length) := rfl
    clear h2 h3 h
    generalize xs.length = n at *
    go_enter Try.func21, Try.ntmps21
    go_wp2_with fail
    go_loop [3, 5, 8] (fun s _ i => ∃ k : Nat, k ≤ n ∧ i = .int .i64 k ∧ s = .int .i64 (sumTo (nth xs) k)) (fun _ _ i => n - (intOf i).toNat)
    case atStart => exact ⟨0, Nat.zero_le _, rfl, rfl⟩
    case round =>
      obtain ⟨k, hk, rfl, rfl⟩ := hrel
      obtain ⟨b1, b2⟩ := HB.out k hk
      by_cases hlt : k < n
      · have hc := H2.out k hlt
        obtain ⟨x1, x2⟩ := HX.out k hlt
        have HE : Hid (sumTo (nth xs) (k + 1) = sumTo (nth xs) k + nth xs k) := rfl
        generalize sumTo (nth xs) k = s at *
        generalize nth xs k = x at *
        go_wp2_with fail
        go_round
        case rel => exact ⟨k + 1, by omega, by go_num, by rw [HE.out]⟩
        case measure => simp [intOf]; omega
      · obtain rfl : k = n := by omega
        generalize sumTo (nth xs) k = s at *
        go_wp2_with fail
        go_ret
        exact ⟨ret_i64 HS.out.symm, rfl⟩
end Go.Proofs.Yteaadpgpihggeaa

namespace Go.Proofs.Yteaadpgpihggeaa
open Go.RowKit
theorem Hid.mk' {p : Prop} (h : p) : Hid p := h
def ownS (cs ev : List Int) (k : Nat) : Int := sumTo (fun i => nth cs (nth ev i).toNat) k
def chOk (cs ev : List Int) (d : Int) : Bool := countB cs && (evB ev cs.length && wB d 1 1000)
abbrev oddsV (n d : Int) : Value := .agg #[.int .i64 n, .int .i64 d]
def chLow (cs ev : List Int) (d : Int) : Int := if ev.length = cs.length then sumI cs + d else ownS cs ev ev.length
def chHigh (cs ev : List Int) (d : Int) : Int := if ev.length = 0 then 0 else ownS cs ev ev.length + d
theorem chance_bad (cs ev : List Int) (d : Int) (v u : Value) (w : World) (hv : Ints w v cs) (hu : Ints w u ev) (h : chOk cs ev d = false) :
    Calls Try.prog 8 #[v, u, .int .i64 d] w fun e w' => e = .returned (.tuple #[oddsV 0 0, oddsV 0 0, .int .i64 2]) ∧ Below w.heap.size w w' := by
  have hal : ∀ o p, Below w.heap.size w ((w.alloc o).alloc p) := fun o p => ((Below.refl _ _).alloc (Nat.le_refl _) o).alloc (by simp) p
  have HV : Hid (∀ o p, Ints ((w.alloc o).alloc p) v cs) := fun o p => hv.below (hal o p) (Nat.le_refl _)
  have HU : Hid (∀ o p, Ints ((w.alloc o).alloc p) u ev) := fun o p => hu.below (hal o p) (Nat.le_refl _)
  have HA : Hid (∀ o p, Below w.heap.size w ((w.alloc o).alloc p)) := hal
  have hl := hv.len_le
  obtain ⟨p, cap, rfl⟩ := hv.shape
  clear hal hv hu
  unfold chOk at h
  cases h1 : countB cs
  · have H1 : Hid (countB cs = _) := h1
    clear h1 h
    go_enter Try.func8, Try.ntmps8
    go_wp2_with (go_at_call 12; refine (counted_c cs _ _ (HV.out _ _)).mono ?_; rintro e w' ⟨rfl, rfl⟩; rw [H1.out])
    exact bodyPost_ret (v := .tuple #[oddsV 0 0, oddsV 0 0, .int .i64 2]) (by simp [results, Try.results8, go_sem]) rfl ⟨rfl, HA.out _ _⟩
  · have H1 : Hid (countB cs = _) := h1
    rw [h1, Bool.true_and] at h
    clear h1
    cases h2 : evB ev cs.length
    · have H2 : Hid (evB ev cs.length = _) := h2
      clear h2 h
      go_enter Try.func8, Try.ntmps8
      go_wp2_with (first
        | (go_at_call 12; refine (counted_c cs _ _ (HV.out _ _)).mono ?_; rintro e w' ⟨rfl, rfl⟩; rw [H1.out])
        | (go_at_call 20; refine (event_c ev _ _ _ (HU.out _ _) (by omega) (by omega)).mono ?_; rintro e w' ⟨rfl, rfl⟩; rw [H2.out]))
      exact bodyPost_ret (v := .tuple #[oddsV 0 0, oddsV 0 0, .int .i64 2]) (by simp [results, Try.results8, go_sem]) rfl ⟨rfl, HA.out _ _⟩
    · have H2 : Hid (evB ev cs.length = _) := h2
      rw [h2, Bool.true_and] at h
      have H3 : Hid (wB d 1 1000 = _) := h
      clear h2 h
      go_enter Try.func8, Try.ntmps8
      go_wp2_with (first
        | (go_at_call 12; refine (counted_c cs _ _ (HV.out _ _)).mono ?_; rintro e w' ⟨rfl, rfl⟩; rw [H1.out])
        | (go_at_call 20; refine (event_c ev _ _ _ (HU.out _ _) (by omega) (by omega)).mono ?_; rintro e w' ⟨rfl, rfl⟩; rw [H2.out])
        | (go_at_call 16; refine (within_c _ _ _ _).mono ?_; rintro e w' ⟨rfl, rfl⟩; rw [H3.out]))
      exact bodyPost_ret (v := .tuple #[oddsV 0 0, oddsV 0 0, .int .i64 2]) (by simp [results, Try.results8, go_sem]) rfl ⟨rfl, HA.out _ _⟩
theorem ev_bd {cs ev : List Int} {n : Int} (h : evB ev n = true) : ∀ i, i < ev.length → 0 ≤ nth ev i ∧ nth ev i < n := by
  intro i hi
  unfold evB at h
  rw [Bool.not_eq_true', List.any_eq_false] at h
  have := h i (by simpa using hi)
  unfold evBad at this
  simp only [Bool.not_eq_true, Bool.or_eq_false_iff, Bool.not_eq_false', wB_iff] at this
  omega
theorem own_bd {cs ev : List Int} (hc : countB cs = true) (he : evB ev cs.length = true) : ∀ k, k ≤ ev.length → 0 ≤ ownS cs ev k ∧ ownS cs ev k ≤ 1000000 * k :=
  sumTo_bd fun j hj => countB_bd hc _ (by have := ev_bd (cs := cs) he j hj; omega)
theorem ev_up {ev : List Int} {n : Int} (h : evB ev n = true) : ∀ i, i < ev.length → (i : Int) ≤ nth ev i
  | 0, hi => (ev_bd (cs := []) h 0 hi).1
  | i + 1, hi => by
    have ih := ev_up h i (by omega)
    unfold evB at h
    rw [Bool.not_eq_true', List.any_eq_false] at h
    have := h (i + 1) (by simpa using hi)
    unfold evBad at this
    simp only [Bool.not_eq_true, Bool.or_eq_false_iff, Nat.add_sub_cancel, Bool.and_eq_false_iff, decide_eq_false_iff_not] at this
    omega
theorem ev_len {ev : List Int} {n : Int} (h : evB ev n = true) (hn : 0 ≤ n) : (ev.length : Int) ≤ n := by
  rcases Nat.eq_zero_or_pos ev.length with h0 | h0
  · omega
  · have h1 := ev_up h (ev.length - 1) (by omega)
    have h2 := ev_bd (cs := []) h (ev.length - 1) (by omega)
    omega
set_option maxHeartbeats 1000000 in
theorem chance_ok (cs ev : List Int) (d : Int) (v u : Value) (w : World) (hv : Ints w v cs) (hu : Ints w u ev) (h : chOk cs ev d = true) :
    Calls Try.prog 8 #[v, u, .int .i64 d] w fun e w' => e = .returned (.tuple #[oddsV (chLow cs ev d) (sumI cs + d), oddsV (chHigh cs ev d) (sumI cs + d), .int .i64 0]) ∧ Below w.heap.size w w' := by
  have hal : ∀ o p, Below w.heap.size w ((w.alloc o).alloc p) := fun o p => ((Below.refl _ _).alloc (Nat.le_refl _) o).alloc (by simp) p
  have HV : Hid (∀ o p, Ints ((w.alloc o).alloc p) v cs) := fun o p => hv.below (hal o p) (Nat.le_refl _)
  have HU : Hid (∀ o p, Ints ((w.alloc o).alloc p) u ev) := fun o p => hu.below (hal o p) (Nat.le_refl _)
  have HA : Hid (∀ o p, Below w.heap.size w ((w.alloc o).alloc p)) := hal
  clear hal
  simp only [chOk, Bool.and_eq_true] at h
  obtain ⟨h1, h2, h3⟩ := h
  have H1 : Hid (countB cs = true) := h1
  have H2 : Hid (evB ev cs.length = true) := h2
  have H3 : Hid (wB d 1 1000 = true) := h3
  obtain ⟨d1, d2⟩ := (wB_iff _ _ _).1 h3
  obtain ⟨⟨n1, n2⟩, -⟩ := (countB_iff cs).1 h1
  have HS := sum_bd n2 (countB_bd h1)
  have HC : Hid (∀ j, j < cs.length → 0 ≤ nth cs j ∧ nth cs j ≤ 1000000) := countB_bd h1
  have HO : Hid (∀ k, k ≤ ev.length → 0 ≤ ownS cs ev k ∧ ownS cs ev k ≤ 1000000 * k) := own_bd h1 h2
  have HE : Hid (∀ i, i < ev.length → 0 ≤ nth ev i ∧ nth ev i < cs.length) := ev_bd (cs := cs) h2
  have hel := ev_len h2 (by omega)
  clear h1 h2 h3
  rcases hv with ⟨_, _, _, rfl⟩ | ⟨b, off, cap, rfl, g0, g1, g2, g3⟩
  · simp at n1
  have hb : b < w.heap.size := lt_of_cell (g2 0 g0)
  have G2 : Hid (∀ i, i < cs.length → w.cell? ⟨b, off + i, none⟩ = some (.int .i64 (nth cs i))) := g2
  clear g2 g3
  have HL : Hid (chLow cs ev d = if ev.length = cs.length then sumI cs + d else ownS cs ev ev.length) := rfl
  have HH : Hid (chHigh cs ev d = if ev.length = 0 then 0 else ownS cs ev ev.length + d) := rfl
  generalize hcn : cs.length = n at *
  have HCN : Hid (cs.length = n) := hcn
  clear hcn
  obtain ⟨HS1, HS2⟩ := HS
  have HSC : Hid (∀ w v, Ints w v cs → Calls Try.prog 21 #[v] w fun e w' => e = .returned (.int .i64 (sumI cs)) ∧ w = w') := fun w v hv => sum_c cs v w hv (by rw [HCN.out]; exact n2) (by rw [HCN.out]; exact HC.out)
  have HCC : Hid (∀ w v, Ints w v cs → Calls Try.prog 12 #[v] w fun e w' => e = .returned (.bool true) ∧ w = w') := fun w v hv => by have := counted_c cs v w hv; rw [H1.out] at this; exact this
  have HEC : Hid (∀ w v, Ints w v ev → Calls Try.prog 20 #[v, .int .i64 n] w fun e w' => e = .returned (.bool true) ∧ w = w') := fun w v hv => by have := event_c ev n v w hv (by omega) (by omega); rw [H2.out] at this; exact this
  generalize sumI cs = S at *
  rcases hu with ⟨q, cap', rfl, rfl⟩ | ⟨b', off', cap', rfl, k0, k1, k2, k3⟩
  · go_enter Try.func8, Try.ntmps8
    go_wp2_with (first
        | (go_at_call 12; refine (HCC.out _ _ (HV.out _ _)).mono ?_; rintro e w' ⟨rfl, rfl⟩)
        | (go_at_call 20; refine (HEC.out _ _ (HU.out _ _)).mono ?_; rintro e w' ⟨rfl, rfl⟩)
        | (go_at_call 16; refine (within_c _ _ _ _).mono ?_; rintro e w' ⟨rfl, rfl⟩; rw [H3.out])
        | (go_at_call 21; refine (HSC.out _ _ (HV.out _ _)).mono ?_; rintro e w' ⟨rfl, rfl⟩))
    have hLn : chLow cs [] d = 0 := by rw [HL.out, if_neg (by simp; omega)]; rfl
    have hHn : chHigh cs [] d = 0 := by rw [HH.out]; rfl
    have HLn := Hid.mk' hLn
    have HHn := Hid.mk' hHn
    clear hLn hHn
    have hbn : ((0 : Int) == (n : Int)) = false := by simp; omega
    go_loop [10, 12, 36] (fun s _ i => i = .int .i64 0 ∧ s = .int .i64 0) (fun _ _ _ => 0)
    case atStart => exact ⟨rfl, rfl⟩
    case round =>
      obtain ⟨rfl, rfl⟩ := hrel
      go_wp2_with fail
      go_region
      all_goals
        go_wp2_with fail
        exact bodyPost_ret (v := .tuple #[oddsV 0 (S + d), oddsV 0 (S + d), .int .i64 0]) (by simp [results, Try.results8, go_sem]) rfl ⟨by rw [HLn.out, HHn.out], (HA.out _ _).drew⟩
  · have hb' : b' < w.heap.size := lt_of_cell (k2 0 k0)
    have K2 : Hid (∀ i, i < ev.length → w.cell? ⟨b', off' + i, none⟩ = some (.int .i64 (nth ev i))) := k2
    clear k2 k3
    generalize ev.length = m at *
    go_enter Try.func8, Try.ntmps8
    go_wp2_with (first
        | (go_at_call 12; refine (HCC.out _ _ (HV.out _ _)).mono ?_; rintro e w' ⟨rfl, rfl⟩)
        | (go_at_call 20; refine (HEC.out _ _ (HU.out _ _)).mono ?_; rintro e w' ⟨rfl, rfl⟩)
        | (go_at_call 16; refine (within_c _ _ _ _).mono ?_; rintro e w' ⟨rfl, rfl⟩; rw [H3.out])
        | (go_at_call 21; refine (HSC.out _ _ (HV.out _ _)).mono ?_; rintro e w' ⟨rfl, rfl⟩))
    go_loop [10, 12, 36] (fun s _ i => ∃ k : Nat, k ≤ m ∧ i = .int .i64 k ∧ s = .int .i64 (ownS cs ev k)) (fun _ _ i => m - (intOf i).toNat)
    case atStart => exact ⟨0, Nat.zero_le _, rfl, rfl⟩
    case round =>
      obtain ⟨k, hk, rfl, rfl⟩ := hrel
      obtain ⟨b1, b2⟩ := HO.out k hk
      by_cases hlt : k < m
      · have hc := K2.out k hlt
        obtain ⟨x1, x2⟩ := HE.out k hlt
        have HES : Hid (ownS cs ev (k + 1) = ownS cs ev k + nth cs (nth ev k).toNat) := rfl
        generalize ownS cs ev k = s at *
        generalize nth ev k = x at *
        obtain ⟨y, rfl⟩ := Int.eq_ofNat_of_zero_le x1
        have hc2 := G2.out y (by omega)
        obtain ⟨z1, z2⟩ := HC.out y (by omega)
        simp only [Int.toNat_natCast] at HES
        generalize nth cs y = z at *
        go_wp2_with fail
        go_round
        case rel => exact ⟨k + 1, by omega, by go_num, by rw [HES.out]⟩
        case measure => simp [intOf]; omega
      · obtain rfl : k = m := by omega
        have hb0 : ((k : Int) == 0) = false := by simp; omega
        by_cases hkn : k = n
        · have hLn : chLow cs ev d = S + d := by rw [HL.out, if_pos hkn]
          have hHn : chHigh cs ev d = ownS cs ev k + d := by rw [HH.out, if_neg (by omega)]
          have HLn := Hid.mk' hLn
          have HHn := Hid.mk' hHn
          clear hLn hHn
          have hbn : ((k : Int) == (n : Int)) = true := by simp; omega
          generalize ownS cs ev k = s at *
          clear hkn
          go_wp2_with fail
          go_region
          all_goals
            go_wp2_with fail
            exact bodyPost_ret (v := .tuple #[oddsV (S + d) (S + d), oddsV (s + d) (S + d), .int .i64 0]) (by simp [results, Try.results8, go_sem]) rfl ⟨by rw [HLn.out, HHn.out], (HA.out _ _).drew⟩
        · have hLn : chLow cs ev d = ownS cs ev k := by rw [HL.out, if_neg hkn]
          have hHn : chHigh cs ev d = ownS cs ev k + d := by rw [HH.out, if_neg (by omega)]
          have HLn := Hid.mk' hLn
          have HHn := Hid.mk' hHn
          clear hLn hHn
          have hbn : ((k : Int) == (n : Int)) = false := by simp; omega
          generalize ownS cs ev k = s at *
          clear hkn
          go_wp2_with fail
          go_region
          all_goals
            go_wp2_with fail
            exact bodyPost_ret (v := .tuple #[oddsV s (S + d), oddsV (s + d) (S + d), .int .i64 0]) (by simp [results, Try.results8, go_sem]) rfl ⟨by rw [HLn.out, HHn.out], (HA.out _ _).drew⟩
end Go.Proofs.Yteaadpgpihggeaa

namespace Go.Proofs.Yteaadpgpihggeaa
open Go.RowKit
def rndQ (how a b : Int) : Int := if how = 1 then a / b else -((-a) / b)
def partQ (how r : Int) : Int := if how = 1 then (if r < 0 then -1 else 0) else (if 0 < r then 1 else 0)
theorem part_scale (r b how : Int) (hh : how = 1 ∨ how = 2) (hb0 : 0 < b) (hb1 : b ≤ 2147483648) (h1 : -b < r) (h2 : r < b) : scaleX r 1 b how = .ok (partQ how r) := by
  have ea : absI 1 = 1 := rfl
  have eb : absI b = b := by unfold absI; rw [if_neg (by omega)]
  unfold scaleX
  rw [ea, eb, Int.mul_one]
  have hr : 0 ≤ absI r ∧ absI r < b := by unfold absI; split <;> omega
  have hz : hiW (absI r) = 0 := by unfold hiW; omega
  have hl : loW (absI r) = absI r := by unfold loW; omega
  rw [hz, hl]
  have hq : quoI 0 (absI r) b = 0 := by unfold quoI; rw [Int.zero_mul, Int.zero_add]; exact Int.ediv_eq_zero_of_lt hr.1 hr.2
  have hm : remI 0 (absI r) b = absI r := by unfold remI; rw [Int.zero_mul, Int.zero_add]; exact Int.emod_eq_of_lt hr.1 hr.2
  have hn : (decide (r < 0) != (decide ((1 : Int) < 0) != decide (b < 0))) = decide (r < 0) := by
    have : decide (b < 0) = false := by simp only [decide_eq_false_iff_not]; omega
    rw [this]; cases decide (r < 0) <;> rfl
  rw [hn]
  have hu : qUp 0 (absI r) b (decide (r < 0)) how = if 0 < absI r ∧ rndB how (halfI (absI r) b) (decide (r < 0)) = true then 1 else 0 := by
    unfold qUp
    rw [hq, hm]
    split <;> rfl
  unfold quot
  rw [if_neg (by omega), hu]
  rcases hh with rfl | rfl
  · have e : rndB 1 (halfI (absI r) b) (decide (r < 0)) = decide (r < 0) := rfl
    rw [e]
    unfold partQ absI sgn
    by_cases hr0 : r < 0
    · simp [hr0]
    · simp [hr0]
  · have e : rndB 2 (halfI (absI r) b) (decide (r < 0)) = !decide (r < 0) := rfl
    rw [e]
    unfold partQ absI sgn
    by_cases hr0 : r < 0
    · simp [hr0]; omega
    · by_cases hr1 : 0 < r
      · simp [hr0, hr1]
      · simp [hr0, hr1]
theorem div_is {x b q : Int} (hb : 0 < b) (h1 : q * b ≤ x) (h2 : x < q * b + b) : x / b = q := by
  have a := (Int.le_ediv_iff_mul_le hb).2 h1
  have c := (Int.ediv_lt_iff_lt_mul hb).2 (show x < (q + 1) * b by rw [Int.add_mul, Int.one_mul]; exact h2)
  omega
theorem part_sum (a b how : Int) (hh : how = 1 ∨ how = 2) (hb0 : 0 < b) : a.tdiv b + partQ how (a.tmod b) = rndQ how a b := by
  have hb : b ≠ 0 := by omega
  rcases Int.lt_or_le a 0 with ha | ha
  · obtain ⟨c, rfl⟩ : ∃ c, a = -c := ⟨-a, by omega⟩
    have hc : 0 ≤ c := by omega
    rw [Int.neg_tdiv, Int.neg_tmod, Int.tdiv_eq_ediv_of_nonneg hc, Int.tmod_eq_emod_of_nonneg hc]
    have h1 := Int.mul_ediv_add_emod c b
    have h2 := Int.emod_nonneg c hb
    have h3 := Int.emod_lt_of_pos c hb0
    rw [Int.mul_comm] at h1
    generalize c / b = q at *
    generalize c % b = r at *
    unfold partQ rndQ
    rcases hh with rfl | rfl
    · rw [if_pos rfl, if_pos rfl]
      by_cases hr : r = 0
      · rw [if_neg (by omega)]
        exact (div_is hb0 (by rw [Int.add_zero, Int.neg_mul]; omega) (by rw [Int.add_zero, Int.neg_mul]; omega)).symm
      · rw [if_pos (by omega)]
        exact (div_is hb0 (by rw [Int.add_mul, Int.neg_mul, Int.neg_mul, Int.one_mul]; omega) (by rw [Int.add_mul, Int.neg_mul, Int.neg_mul, Int.one_mul]; omega)).symm
    · rw [if_neg (show ¬ (2 : Int) = 1 by decide), if_neg (show ¬ (2 : Int) = 1 by decide), if_neg (by omega), Int.neg_neg]
      have : c / b = q := div_is hb0 (by omega) (by omega)
      rw [this]; omega
  · rw [Int.tdiv_eq_ediv_of_nonneg ha, Int.tmod_eq_emod_of_nonneg ha]
    have h1 := Int.mul_ediv_add_emod a b
    have h2 := Int.emod_nonneg a hb
    have h3 := Int.emod_lt_of_pos a hb0
    rw [Int.mul_comm] at h1
    unfold partQ rndQ
    rcases hh with rfl | rfl
    · rw [if_pos rfl, if_pos rfl, if_neg (by omega)]; omega
    · rw [if_neg (show ¬ (2 : Int) = 1 by decide), if_neg (show ¬ (2 : Int) = 1 by decide)]
      generalize a / b = q at *
      generalize a % b = r at *
      by_cases hr : r = 0
      · rw [if_neg (by omega)]
        have : (-a) / b = -q := div_is hb0 (by rw [Int.neg_mul]; omega) (by rw [Int.neg_mul]; omega)
        rw [this]; omega
      · rw [if_pos (by omega)]
        have : (-a) / b = -q - 1 := div_is hb0 (by rw [Int.sub_mul, Int.neg_mul, Int.one_mul]; omega) (by rw [Int.sub_mul, Int.neg_mul, Int.one_mul]; omega)
        rw [this]; omega
theorem tdiv_bd (a b : Int) (hb0 : 0 < b) (h1 : -4611686018427387904 ≤ a) (h2 : a ≤ 4611686018427387904) : -4611686018427387904 ≤ a.tdiv b ∧ a.tdiv b ≤ 4611686018427387904 ∧ -b < a.tmod b ∧ a.tmod b < b := by
  rcases Int.lt_or_le a 0 with ha | ha
  · obtain ⟨c, rfl⟩ : ∃ c, a = -c := ⟨-a, by omega⟩
    have hc : 0 ≤ c := by omega
    rw [Int.neg_tdiv, Int.neg_tmod, Int.tdiv_eq_ediv_of_nonneg hc, Int.tmod_eq_emod_of_nonneg hc]
    have := Int.ediv_nonneg hc (show 0 ≤ b by omega)
    have := Int.ediv_le_self b hc
    have h2 := Int.emod_nonneg c (show b ≠ 0 by omega)
    have h3 := Int.emod_lt_of_pos c hb0
    omega
  · rw [Int.tdiv_eq_ediv_of_nonneg ha, Int.tmod_eq_emod_of_nonneg ha]
    have := Int.ediv_nonneg ha (show 0 ≤ b by omega)
    have := Int.ediv_le_self b ha
    have h2 := Int.emod_nonneg a (show b ≠ 0 by omega)
    have h3 := Int.emod_lt_of_pos a hb0
    omega
theorem share_c (a b how : Int) (w : World) (hh : how = 1 ∨ how = 2) (hb0 : 0 < b) (hb1 : b ≤ 2147483648) (h1 : -4611686018427387904 ≤ a) (h2 : a ≤ 4611686018427387904) :
    Calls Try.prog 29 #[.int .i64 a, .int .i64 b, .int .i64 how] w fun e w' => e = .returned (.tuple #[.int .i64 (rndQ how a b), .int .i64 0]) ∧ Below w.heap.size w w' := by
  obtain ⟨t1, t2, t3, t4⟩ := tdiv_bd a b hb0 h1 h2
  have HS : Hid (scaleX (a.tmod b) 1 b how = .ok (partQ how (a.tmod b))) := part_scale _ b how hh hb0 hb1 t3 t4
  have HF : Hid (a.tdiv b + partQ how (a.tmod b) = rndQ how a b) := part_sum a b how hh hb0
  have HP : -1 ≤ partQ how (a.tmod b) ∧ partQ how (a.tmod b) ≤ 1 := by unfold partQ; repeat' split
                                                                       all_goals omega
  have HW : Hid (Way how) := by show 0 ≤ how ∧ how ≤ 3; omega
  have hne : ¬ b = 0 := by omega
  have HO : Hid (okFix (a.tmod b)) := by show _ ∧ _; omega
  have HR : Hid (okRate b) := by show _ ∧ _; omega
  obtain ⟨p1, p2⟩ := HP
  clear hh
  go_enter Try.func29, Try.ntmps29
  go_wp2_with fail
  go_quiet (fail)
  go_wp2_with (go_at_call 36; refine (scale_c (a.tmod b) 1 b how _ _ HO.out HW.out (by show _ ∧ _; decide) HR.out hne HS.out).mono ?_; rintro e w1 ⟨rfl, hb⟩)
  go_ret2
  refine ⟨?_, ?_⟩
  · rw [← HF.out]; rfl
  · exact (show Below w.heap.size w (w.drewN nq) from ⟨rfl, rfl, rfl, Nat.le_refl _, fun _ _ => rfl⟩).trans hb
end Go.Proofs.Yteaadpgpihggeaa

namespace Go.Proofs.Yteaadpgpihggeaa
open Go.RowKit
theorem cpost_flat {M : Nat → Prop} {w w' : World} {v : AVal} {x : Value} (hM : ∀ b, M b → b < w.heap.size) (hb : Below w.heap.size w w') (hr : Rep [] ⟨fun _ => Go.undef, M⟩ w' v x) : CPost M w (.ret v) (.returned x) w' :=
  ⟨M, fun _ h => h, fun _ h => .inl h, fun b h => Nat.lt_of_lt_of_le (hM b h) hb.size, hb, x, rfl, hr⟩
def shareF : List AVal → Option AOut
  | [.int .i64 a, .int .i64 b, .int .i64 how] => if (how = 1 ∨ how = 2) ∧ 0 < b ∧ b ≤ 2147483648 ∧ -4611686018427387904 ≤ a ∧ a ≤ 4611686018427387904 then some (.ret (.tup [.int .i64 (rndQ how a b), .int .i64 0])) else none
  | _ => none
theorem share_ok : FspOk Try.prog 29 (toFsp shareF) where
  enter := fun args w => by kernel_rfl
  nat := toFsp_nat _
  calls := fun args out hout M w cargs hM hl hr => by
    have hF := toFsp_some hout
    unfold shareF at hF
    split at hF
    · rename_i a b how
      split at hF
      · rename_i hc
        obtain ⟨c1, c2, c3, c4, c5⟩ := hc
        cases hF
        obtain ⟨l⟩ := cargs
        match l, hl with
        | [x, y, z], _ =>
          have e1 := rep_int (hr 0 _ x rfl rfl)
          have e2 := rep_int (hr 1 _ y rfl rfl)
          have e3 := rep_int (hr 2 _ z rfl rfl)
          subst e1; subst e2; subst e3
          refine (share_c a b how w c1 c2 c3 c4 c5).mono ?_
          rintro e w' ⟨rfl, hb⟩
          refine cpost_flat hM hb (.tup _ _ rfl fun j c x hc hx => ?_)
          match j with
          | 0 => cases hc; cases hx; exact .int _ _
          | 1 => cases hc; cases hx; exact .int _ _
          | j + 2 => cases hc
      · cases hF
    · cases hF
def shareOk (how a b : Int) : Prop := (how = 1 ∨ how = 2) ∧ 0 < b ∧ b ≤ 2147483648 ∧ -4611686018427387904 ≤ a ∧ a ≤ 4611686018427387904
instance (how a b : Int) : Decidable (shareOk how a b) := by unfold shareOk; exact inferInstance
def shareS : Fsp := fun _ args k =>
  match args with
  | [.int .i64 a, .int .i64 b, .int .i64 how] => if shareOk how a b then k (.ret (.tup [.int .i64 (rndQ how a b), .int .i64 0])) else none
  | _ => none
theorem shareS_eq : shareS = toFsp shareF := by
  funext α args k
  unfold shareS toFsp shareF
  split
  · rename_i a b how
    by_cases h : shareOk how a b
    · rw [if_pos h]
      rw [if_pos (show (how = 1 ∨ how = 2) ∧ 0 < b ∧ b ≤ 2147483648 ∧ -4611686018427387904 ≤ a ∧ a ≤ 4611686018427387904 from h)]
    · rw [if_neg h]
      rw [if_neg (show ¬((how = 1 ∨ how = 2) ∧ 0 < b ∧ b ≤ 2147483648 ∧ -4611686018427387904 ≤ a ∧ a ≤ 4611686018427387904) from h)]
  · rfl
theorem shareS_ok : FspOk Try.prog 29 shareS := by rw [shareS_eq]; exact share_ok
end Go.Proofs.Yteaadpgpihggeaa

namespace Go.Proofs.Yteaadpgpihggeaa
open Go.RowKit
theorem sfwithin_enter (args : Array Value) (w : World) : (callFunc 14 args).run Try.prog w = .ok (.enter 14 args) w := by kernel_rfl
theorem sfwithin_text (N : Nat) (α : Type) (n lo hi : Int) (k : AOut → Option α) : evFn real tab (envF env0) N Try.f14 α [.int .i64 n, .int .i64 lo, .int .i64 hi] k =
 bif decide (lo ≤ n) then k (AOut.ret (AVal.bool (decide (n ≤ hi)))) else k (AOut.ret (AVal.bool false)) := by kernel_rfl
theorem sfwithin_ok : FspOk Try.prog 14 (toFsp inF) := fsp_of mixed tabOk env_nil Try.func14 sfwithin_enter fun args out hs hF => by
  unfold inF at hF
  split at hF
  · rename_i n lo hi
    cases hF
    refine ⟨1, (sfwithin_text 1 AOut n lo hi some).trans ?_⟩
    unfold inB
    cases decide (lo ≤ n) <;> rfl
  · cases hF
def env8 : FuncId → Option Fsp := fun g =>
  if g = 14 then some (toFsp inF) else
  env7 g
theorem env8_ok : EnvOk Try.prog (envF env8) :=
  env_cons sfwithin_ok <|
  env7_ok
def outB (n : Int) : Bool := !(inB n (-68719476736) 68719476736)
def outF : List AVal → Option AOut
  | [.int .i64 n] => some (.ret (.bool (outB n)))
  | _ => none
theorem sout_enter (args : Array Value) (w : World) : (callFunc 13 args).run Try.prog w = .ok (.enter 13 args) w := by kernel_rfl
theorem sout_text (N : Nat) (α : Type) (n : Int) (k : AOut → Option α) : evFn real tab (envF env8) N Try.f13 α [.int .i64 n] k = k (AOut.ret (AVal.bool (outB n))) := by kernel_rfl
theorem sout_ok : FspOk Try.prog 13 (toFsp outF) := fsp_of mixed tabOk env8_ok Try.func13 sout_enter fun args out hs hF => by
  unfold outF at hF
  split at hF
  · cases hF
    exact ⟨1, sout_text 1 AOut _ some⟩
  · cases hF
def env9 : FuncId → Option Fsp := fun g =>
  if g = 13 then some (toFsp outF) else
  env8 g
theorem env9_ok : EnvOk Try.prog (envF env9) :=
  env_cons sout_ok <|
  env8_ok
def fidxF : List AVal → Option AOut
  | [.ro (.int .i64) xs, .fn g []] => if g = 13 then some (.ret (.int .i64 (fstI outB xs))) else none
  | _ => none
theorem sfindex_enter (args : Array Value) (w : World) : (callFunc 28 args).run Try.prog w = .ok (.enter 28 args) w := by kernel_rfl
theorem sfindex_text (N : Nat) (α : Type) (xs : List Int) (k : AOut → Option α) : evFn real tab (envF env9) N Try.f28 α [.ro (.int .i64) xs, .fn 13 []] k =
 afterL (iterL N (fun x : Int × Unit => bif decide (x.1 < (xs.length : Int)) then if 0 ≤ x.1 ∧ x.1 < (xs.length : Int) then bif outB (xs.getD x.1.toNat (Int.ofNat 0)) then finL (k
 (AOut.ret (AVal.int IntKind.i64 x.1))) else some (LRes.cont (IntKind.i64.wrap (x.1 + 1), ())) else none else some (LRes.brk 0 (x.1, ()))) (0, ())) fun id _ => if id = 0 then k
 (AOut.ret (AVal.int IntKind.i64 (-1))) else none := by kernel_rfl
theorem sfindex_plain {α : Type} (xs : List Int) (hl : xs.length ≤ maxLen) (k : AOut → Option α) :
    (afterL
      (iterL (xs.length + 1)
        (fun x : Int × Unit =>
          bif decide (x.1 < (xs.length : Int)) then
            if 0 ≤ x.1 ∧ x.1 < (xs.length : Int) then
              bif outB (xs.getD x.1.toNat (Int.ofNat 0)) then finL (k (AOut.ret (AVal.int IntKind.i64 x.1)))
              else some (LRes.cont (IntKind.i64.wrap (x.1 + 1), ()))
            else none
          else some (LRes.brk 0 (x.1, ())))
        (0, ()))
      fun id _ => if id = 0 then k (AOut.ret (AVal.int IntKind.i64 (-1))) else none) = k (.ret (.int .i64 (fstI outB xs))) := by
  generalize hf : (fun x : Int × Unit => (_ : Option (LRes (Int × Unit) α))) = f
  have e : iterL (xs.length + 1) f (0, ()) = match (List.range xs.length).find? (fun i => outB (xs.getD i 0)) with | some i => finL (k (AOut.ret (AVal.int .i64 (i : Int)))) | none => some (.brk 0 ((xs.length : Int), ())) := by
    refine iterL_find (f := f) (fun i : Nat => ((i : Int), ())) _ (fun i => fin_not _) (brk_not _ _) xs.length (fun i hi => ?_) ?_
    · rw [← hf]
      have h1 : decide ((i : Int) < (xs.length : Int)) = true := decide_eq_true (by omega)
      simp only [h1, cond_true]
      rw [if_pos ⟨by omega, by omega⟩]
      have h2 : IntKind.i64.wrap ((i : Int) + 1) = ((i + 1 : Nat) : Int) := wrap_small (n := i + 1) (by omega)
      rw [h2]
      rfl
    · rw [← hf]
      have h1 : decide ((xs.length : Int) < (xs.length : Int)) = false := decide_eq_false (by omega)
      simp only [h1, cond_false]
  rw [e]
  unfold fstI
  cases (List.range xs.length).find? fun i => outB (xs.getD i 0) with
  | none => rfl
  | some i =>
    simp only
    cases k (AOut.ret (AVal.int .i64 (i : Int))) <;> rfl
theorem sfindex_ok : FspOk Try.prog 28 (toFsp fidxF) := fsp_of mixed tabOk env9_ok Try.func28 sfindex_enter fun args out hs hF => by
  unfold fidxF at hF
  split at hF
  · rename_i xs g
    split at hF
    · rename_i hg
      subst hg
      cases hF
      exact ⟨_, (sfindex_text _ AOut xs some).trans (sfindex_plain xs (hs _ (by simp)).len some)⟩
    · cases hF
  · cases hF
def env10 : FuncId → Option Fsp := fun g =>
  if g = 28 then some (toFsp fidxF) else
  env9 g
theorem env10_ok : EnvOk Try.prog (envF env10) :=
  env_cons sfindex_ok <|
  env9_ok
def fanyF : List AVal → Option AOut
  | [.ro (.int .i64) xs, .fn g []] => if g = 13 then some (.ret (.bool (List.any (α := Int) xs outB))) else none
  | _ => none
theorem sfcontains_enter (args : Array Value) (w : World) : (callFunc 15 args).run Try.prog w = .ok (.enter 15 args) w := by kernel_rfl
theorem sfcontains_text (N : Nat) (α : Type) (xs : List Int) (k : AOut → Option α) : evFn real tab (envF env10) N Try.f15 α [.ro (.int .i64) xs, .fn 13 []] k = k (AOut.ret (AVal.bool (decide (fstI outB xs ≥ 0)))) := by kernel_rfl
theorem sfcontains_ok : FspOk Try.prog 15 (toFsp fanyF) := fsp_of mixed tabOk env10_ok Try.func15 sfcontains_enter fun args out hs hF => by
  unfold fanyF at hF
  split at hF
  · rename_i xs g
    split at hF
    · rename_i hg
      subst hg
      cases hF
      exact ⟨1, (sfcontains_text 1 AOut xs some).trans (congrArg (fun b => some (AOut.ret (AVal.bool b))) (fst_any outB xs))⟩
    · cases hF
  · cases hF
def env11 : FuncId → Option Fsp := fun g =>
  if g = 15 then some (toFsp fanyF) else
  env10 g
theorem env11_ok : EnvOk Try.prog (envF env11) :=
  env_cons sfcontains_ok <|
  env10_ok
theorem out_far (n : Int) : outB n = farB n := by
  unfold outB farB inB
  by_cases h1 : (-68719476736 : Int) ≤ n
  · by_cases h2 : n ≤ 68719476736
    · rw [decide_eq_true h1, decide_eq_true h2, decide_eq_false (by omega), decide_eq_false (by omega)]; rfl
    · rw [decide_eq_true h1, decide_eq_false h2, decide_eq_false (by omega), decide_eq_true (by omega)]; rfl
  · have h2 : n < -68719476736 := by omega
    rw [decide_eq_false h1, decide_eq_true h2]; rfl
def dnQ (a b : Int) : Int := bif decide (a.tmod b < 0) then IntKind.i64.wrap (IntKind.i64.wrap (a.tdiv b) - 1) else IntKind.i64.wrap (a.tdiv b)
def downF : List AVal → Option AOut
  | [.int .i64 a, .int .i64 b] => if b = 0 then none else some (.ret (.int .i64 (dnQ a b)))
  | _ => none
def downS : Fsp := fun _ args k =>
  match args with
  | [.int .i64 a, .int .i64 b] => if b = 0 then none else k (.ret (.int .i64 (dnQ a b)))
  | _ => none
theorem downS_eq : downS = toFsp downF := by
  funext α args k
  unfold downS toFsp downF
  split
  · rename_i a b
    by_cases h : b = 0
    · rw [if_pos h, if_pos h]
    · rw [if_neg h, if_neg h]
  · rfl
def env12 : FuncId → Option Fsp := fun g =>
  if g = 29 then some shareS else
  env11 g
theorem env12_ok : EnvOk Try.prog (envF env12) :=
  env_cons shareS_ok <|
  env11_ok
end Go.Proofs.Yteaadpgpihggeaa

namespace Go.Proofs.Yteaadpgpihggeaa
open Go.RowKit
structure CvAt (P : Program) (cv : Cv) (v : AVal) : Prop where
  nat : ∀ (α : Type) args h (k : AExit → AVal → List ABlk → Option α), cv α v args h k = (cv _ v args h tripE).bind fun p => k p.1 p.2.1 p.2.2
  ok : ∀ args h x u h1, cv _ v args h tripE = some (x, u, h1) → ∀ (K : Nat → Prop) g w (fv : Value) (cargs : Array Value), St K h g w → Rep h g w v fv → args.length = cargs.size →
    (∀ (j : Nat) c z, args[j]? = some c → cargs[j]? = some z → Rep h g w c z) → CallV P fv cargs w (CvPost K h g w h1 x u)
theorem cv_of {P : Program} {cv : Cv} (h : ∀ v, CvAt P cv v) : CvOk P cv := ⟨fun α v => (h v).nat α, fun v => (h v).ok⟩
theorem CvPost.drop {K h g w h1 x u e w'} (p : CvPost K h g w h1 x u e w') (keep : List Nat) : CvPost K h g w (dropH keep h.length 0 h1) x u e w' := by
  obtain ⟨g', s1, l1, hx⟩ := p
  have al := drop_alike keep h.length h1
  refine ⟨g', al.st s1, drop_le keep l1, ?_⟩
  cases x with
  | normal => obtain ⟨z, h1, h2⟩ := hx; exact ⟨z, h1, al.rep h2⟩
  | pan v => obtain ⟨z, h1, h2⟩ := hx; exact ⟨z, h1, al.rep h2⟩
  | exit i => exact hx
  | ret => exact hx
theorem setTmps_rep {h g w} : ∀ (ps : List Nat) (args : List AVal) (cargs : List Value) (ts : List AVal) (tmps : Array Value), args.length = cargs.length → TRep h g w ts tmps →
    (∀ (j : Nat) c z, args[j]? = some c → cargs[j]? = some z → Rep h g w c z) → TRep h g w (setTmps ts ps args) ((ps.zip cargs).foldl (fun tmps (t, a) => tmps.setIfInBounds t a) tmps)
  | [], args, cargs, ts, tmps, _, ht, _ => by
    have : setTmps ts [] args = ts := by cases args <;> rfl
    rw [this]; exact ht
  | p :: ps, [], cargs, ts, tmps, hl, ht, _ => by
    have : cargs = [] := List.eq_nil_of_length_eq_zero (by simpa using hl.symm)
    subst this
    exact ht
  | p :: ps, a :: args, [], ts, tmps, hl, ht, _ => by simp at hl
  | p :: ps, a :: args, z :: cargs, ts, tmps, hl, ht, hr => by
    simp only [setTmps, List.zip_cons_cons, List.foldl_cons]
    refine setTmps_rep ps args cargs _ _ (by simpa using hl) ?_ fun j c z' h1 h2 => hr (j + 1) c z' (by simpa using h1) (by simpa using h2)
    have := TRep.put (s := ⟨ts, h⟩) (a := { tmps := tmps, defers := [] }) ht (some p) (hr 0 a z rfl rfl)
    exact this
section
variable {P : Program} {T : Tab} {env : Env}
theorem round_nat (hE : EnvOk P env) (N : Nat) (i : Nat) {α : Type} (args : List AVal) (h : List ABlk) (k : AExit → AVal → List ABlk → Option α) :
    evRound real T env N i args h k = (evRound real T env N i args h tripE).bind fun p => k p.1 p.2.1 p.2.2 := by
  unfold evRound
  split
  · rename_i ps asg bo _
    split
    · cases hasRange asg || hasRange bo
      · simp only [cond_false]
        refine bind_nat (e := fun k => ev real T env N asg _ k) (fun k => ev_nat hE N asg _ k) (fun p : AExit × AVal × List ABlk => k p.1 p.2.1 p.2.2) fun x s' => ?_
        cases x with
        | normal =>
          simp only
          split
          · rename_i pend tmps ps' asg' bo' _
            refine bind_nat (e := fun k => ev real T env N bo _ k) (fun k => ev_nat hE N bo _ k) (fun p : AExit × AVal × List ABlk => k p.1 p.2.1 p.2.2) fun x s' => ?_
            split
            · cases x <;> rfl
            · rfl
          · rfl
        | exit i => rfl
        | ret => rfl
        | pan v => rfl
      · rfl
    · rfl
  · rfl
theorem round_ok (hm : P.follows .mixedOrders = true) (hT : TabOk P T) (hE : EnvOk P env) (N : Nat) (i : Nat) {args : List AVal} {h h1 : List ABlk} {x : AExit} {u : AVal} (hk : evRound real T env N i args h tripE = some (x, u, h1))
    {K : Nat → Prop} {g : Gh} {w : World} {fv : Value} {cargs : Array Value} (hs : St K h g w) (hv : Rep h g w (.yld i) fv) (hl : args.length = cargs.size) (hr : ∀ (j : Nat) c z, args[j]? = some c → cargs[j]? = some z → Rep h g w c z) : CallV P fv cargs w (CvPost K h g w h1 x u) := by
  unfold evRound at hk
  split at hk
  case h_2 => cases hk
  rename_i st0 pend ts ps asg bo hh
  have hi := getD_some (by simp) hh
  split at hk
  case isFalse => cases hk
  rename_i hlen
  cases hrg : hasRange asg || hasRange bo
  case true => rw [hrg] at hk; cases hk
  rw [hrg] at hk
  simp only [cond_false] at hk
  simp only [Bool.or_eq_false_iff] at hrg
  obtain ⟨hr1, hr2⟩ := hrg
  obtain ⟨l, arr, fn, Dd, d1, d2, d3, d4⟩ := hs.blk i _ hi
  have hfv : fv = .func (.yield l) #[] #[] := by
    cases hv with
    | yld _ _ _ _ h3 => rw [h3 _ _ _ _ _ _ hi, d1]
  have hy := run_yield (P := P) (args := cargs) d2 (by simp; omega)
  refine .inr (.inl ⟨l, _, _, _, _, hfv, hy, ?_⟩)
  obtain ⟨y, s2, e1, e2⟩ := ev_pair hE hk
  have ht0 : TRep h g w (setTmps ts ps args) ((ps.toArray.zip cargs).foldl (fun tmps (t, a) => tmps.setIfInBounds t a) arr) := by
    have := setTmps_rep (h := h) (g := g) (w := w) ps args cargs.toList ts arr (by simpa using hl) ⟨d3.symm, d4⟩ (fun j c z hc hz => hr j c z hc (by simpa using hz))
    rw [← Array.foldl_toList]
    simpa using this
  refine roundIn_of_wpIn trivial ?_
  refine ev_wp (ro := some l) (K0 := K) hm hT hE N asg _ y s2 _ w g K _ (fun _ h => h) (fun _ => hr1) e1 hs ht0 MRep.nil ⟨fun K1 g1 a1 w1 e kk i1 i2 i3 i4 i5 => ?_⟩
  cases y with
  | exit j => cases e2
  | ret => cases e2
  | pan v => cases e2
  | normal =>
    rw [xr_normal i5]
    simp only at e2
    split at e2
    case h_2 => cases e2
    rename_i pend2 ts2 ps2 asg2 bo2 hh2
    have hi2 := getD_some (by simp) hh2
    have same2 : ts2 = ts ∧ ps2 = ps ∧ asg2 = asg ∧ bo2 = bo ∧ g1.ρ i = g.ρ i := by
      obtain ⟨_, _, q1, q2⟩ := i2.lp i _ _ _ _ _ _ (Here.of hi (by simp)) hi2
      rw [hi] at q1
      cases q1
      exact ⟨rfl, rfl, rfl, rfl, q2⟩
    obtain ⟨rfl, rfl, rfl, rfl, hρ1⟩ := same2
    obtain ⟨l1, r1, f1, f2, f3, f4, f5, f6, f7, f8, l12, s12⟩ := lp_set i1 hi2 .busy pend2
    have hl1 : l1 = l := by rw [hρ1, d1] at f1; cases f1; rfl
    subst hl1
    have hrec : ({ r1 with state := .busy, pending := pend2 } : Loop) = { r1 with state := .busy } := by cases r1; simp_all
    rw [hrec] at l12 s12
    refine ⟨_, run_beginRound f2 f3, ?_⟩
    obtain ⟨y3, s3, e3, e4⟩ := ev_pair hE e2
    refine ev_wp (ro := some l1) (K0 := K) hm hT hE N bo2 _ y3 s3 a1 _ g1 K1 _ kk (fun _ => hr2) e3 s12 (i3.mono l12) (i4.mono l12) ⟨fun K2 g3 a3 w3 e' kk2 j1 j2 j3 j4 j5 => ?_⟩
    split at e4
    case h_2 => cases e4
    rename_i st4 pend4 ts4 ps4 asg4 bo4 hh4
    have hi4 := getD_some (by simp) hh4
    have hρ3 : g3.ρ i = g.ρ i := by
      have hlt : i < s2.heap.length := (List.getElem?_eq_some_iff.1 hi2).1
      obtain ⟨_, _, _, q2⟩ := j2.lp i _ _ _ _ _ _ (Here.of (b := .lp .busy pend2 ts2 ps2 asg2 bo2) (by simp only; rw [List.getElem?_set, if_pos rfl, if_pos hlt]) (by simp)) hi4
      rw [q2, hρ1]
    -- behind the round
    have fin : ∀ (st5 : LoopState) (p5 : Option Code) (b : Bool), st5 = (if p5.isNone then .ready else .done) → b = p5.isNone → tripE .normal (.bool b) (s3.heap.set i (.lp st5 p5 ts4 ps4 asg4 bo4)) = some (x, u, h1) →
        ∃ v w', (Instr.endRound l1 p5).run P w3 = .ok v w' ∧ CvPost K h g w h1 x u (.returned v) w' := fun st5 p5 b hst hb he => by
      obtain ⟨l3, r3, g31, g32, g33, _, _, _, _, _, l34, s34⟩ := lp_set j1 hi4 st5 p5
      have hl3 : l3 = l1 := by rw [hρ3, d1] at g31; cases g31; rfl
      subst hl3
      cases he
      refine ⟨_, _, run_endRound p5 g32, g3, ?_, ?_, .bool p5.isNone, rfl, by rw [hb]; exact .bool _⟩
      · rw [← hst]; exact s34.less fun b hb => kk2 b (kk b hb)
      · rw [← hst]
        exact ((i2.trans (l12.less kk)).trans (j2.less kk)).trans (l34.less fun b hb => kk2 b (kk b hb))
    cases y3 with
    | normal =>
      rw [xr_normal j5]
      exact fin .ready none true rfl rfl e4
    | ret =>
      rw [xr_ret j5]
      exact fin .done (some .ret) false rfl rfl e4
    | exit id =>
      rw [xr_exit j5]
      exact fin .done (some (.exit id)) false rfl rfl e4
    | pan v => cases e4
structure FnOk (P : Program) (f : FuncId) (fn : Func) : Prop where
  get : P.funcs[f]? = some fn
  enter : ∀ args w, (callFunc f args).run P w = .ok (.enter f args) w
structure TwOk (P : Program) (tw : Tower) : Prop where
  fs : ∀ f S, tw.fs f = some S → FspOk P f S
  sp : ∀ f S, tw.sp f = some S → ∀ cv, CvOk P cv → ∀ caps, CvAt P (S cv) (.fn f caps)
  fn : ∀ f fn, tw.fn f = some fn → FnOk P f fn
theorem args_caps {h g w} {args caps : List AVal} {cargs carr : Array Value} (hl : args.length = cargs.size) (hcl : caps.length = carr.size) (hr : ∀ (j : Nat) c z, args[j]? = some c → cargs[j]? = some z → Rep h g w c z) (hcr : ∀ (j : Nat) c z, caps[j]? = some c → carr[j]? = some z → Rep h g w c z) :
    (args ++ caps).length = (cargs ++ carr).size ∧ ∀ (j : Nat) c z, (args ++ caps)[j]? = some c → (cargs ++ carr)[j]? = some z → Rep h g w c z := by
  refine ⟨by simp [hl, hcl], fun j c z hc hz => ?_⟩
  rcases Nat.lt_or_ge j args.length with hj | hj
  · rw [List.getElem?_append_left hj] at hc
    rw [Array.getElem?_append_left (by omega)] at hz
    exact hr j c z hc hz
  · rw [List.getElem?_append_right hj] at hc
    rw [Array.getElem?_append_right (by omega), ← hl] at hz
    exact hcr _ c z hc hz
theorem none_at {cv : Cv} {v : AVal} (h : ∀ (α : Type) args hp (k : AExit → AVal → List ABlk → Option α), cv α v args hp k = none) : CvAt P cv v := ⟨fun α args hp k => by rw [h, h]; rfl, fun args hp x u h1 hk => by rw [h] at hk; cases hk⟩
theorem tower_cv {tw : Tower} (hm : P.follows .mixedOrders = true) (hT : TabOk P T) (ht : TwOk P tw) (N : Nat) : ∀ n, CvOk P (cvN real T tw N n)
  | 0 => cv_of fun v => none_at fun _ _ _ _ => rfl
  | n + 1 => cv_of fun v => by
    have ih := tower_cv hm hT ht N n
    have hE : EnvOk P ⟨tw.fs, tw.pr, cvN real T tw N n⟩ := ⟨ht.fs, ih⟩
    cases v with
    | fn f caps =>
      cases hsp : tw.sp f with
      | some S =>
        have e : ∀ (α : Type) args hp (k : AExit → AVal → List ABlk → Option α), cvN real T tw N (n + 1) α (.fn f caps) args hp k = S (cvN real T tw N n) α (.fn f caps) args hp k := fun α args hp k => by simp only [cvN, hsp]
        have := ht.sp f S hsp _ ih caps
        exact ⟨fun α args hp k => by rw [e, e]; exact this.nat α args hp k, fun args hp x u h1 hk => by rw [e] at hk; exact this.ok args hp x u h1 hk⟩
      | none =>
        cases hfs : (bif Env.inn ⟨tw.fs, tw.pr, fun _ _ _ _ _ => none⟩ f then none else tw.fs f) with
        | some S =>
          have e : ∀ (α : Type) args hp (k : AExit → AVal → List ABlk → Option α), cvN real T tw N (n + 1) α (.fn f caps) args hp k = evPure S false false (args ++ caps) hp k := fun α args hp k => by simp only [cvN, hsp, hfs]
          have hok := ht.fs f S (by cases hin : Env.inn ⟨tw.fs, tw.pr, fun _ _ _ _ _ => none⟩ f <;> rw [hin] at hfs <;> first | exact hfs | cases hfs)
          refine ⟨fun α args hp k => by rw [e, e]; exact evPure_nat hok .., fun args hp x u h1 hk K g w fv cargs hs hv hl hr => ?_⟩
          rw [e] at hk
          cases hv with
          | fn _ _ arr a1 a2 =>
            obtain ⟨b1, b2⟩ := args_caps hl a1 hr a2
            exact .inl ⟨f, arr, rfl, fun w => hok.enter _ w, pure_calls hok hs false false _ _ b1 b2 hk⟩
        | none =>
          cases hfn : tw.fn f with
          | none => exact none_at fun _ _ _ _ => by simp only [cvN, hsp, hfs, hfn]
          | some fn =>
            have e : ∀ (α : Type) args hp (k : AExit → AVal → List ABlk → Option α), cvN real T tw N (n + 1) α (.fn f caps) args hp k = evBody real T ⟨tw.fs, tw.pr, cvN real T tw N n⟩ N fn (args ++ caps) hp fun x v h' => k x v (dropH (keepB h' hp.length v) hp.length 0 h') := fun α args hp k => by simp only [cvN, hsp, hfs, hfn]
            have hok := ht.fn f fn hfn
            refine ⟨fun α args hp k => ?_, fun args hp x u h1 hk K g w fv cargs hs hv hl hr => ?_⟩
            · rw [e, e, body_nat hE N fn (args ++ caps) hp (fun x v h' => k x v (dropH (keepB h' hp.length v) hp.length 0 h')), body_nat hE N fn (args ++ caps) hp (fun x v h' => tripE x v (dropH (keepB h' hp.length v) hp.length 0 h'))]
              cases evBody real T ⟨tw.fs, tw.pr, cvN real T tw N n⟩ N fn (args ++ caps) hp tripE <;> rfl
            · rw [e, body_nat hE] at hk
              cases hq : evBody real T ⟨tw.fs, tw.pr, cvN real T tw N n⟩ N fn (args ++ caps) hp tripE with
              | none => rw [hq] at hk; cases hk
              | some p =>
                obtain ⟨x', u', h'⟩ := p
                rw [hq] at hk
                cases hk
                cases hv with
                | fn _ _ arr a1 a2 =>
                  obtain ⟨b1, b2⟩ := args_caps hl a1 hr a2
                  exact .inl ⟨f, arr, rfl, fun w => hok.enter _ w, (body_calls hm hT hE N hok.get hq hs b1 b2).mono fun e w' hp => hp.drop _⟩
    | yld i =>
      exact ⟨fun α args hp k => round_nat hE N i args hp k, fun args hp x u h1 hk K g w fv cargs hs hv hl hr => round_ok hm hT hE N i hk hs hv hl hr⟩
    | _ => exact none_at fun _ _ _ _ => rfl
theorem tower_ok {tw : Tower} (hm : P.follows .mixedOrders = true) (hT : TabOk P T) (ht : TwOk P tw) (N n : Nat) : EnvOk P (tw.env real T N n) := ⟨ht.fs, tower_cv hm hT ht N n⟩
theorem tower_fsp {tw : Tower} (hm : P.follows .mixedOrders = true) (hT : TabOk P T) (ht : TwOk P tw) {f : FuncId} {fn : Func} (hf : FnOk P f fn)
    {F : List AVal → Option AOut} (hF : ∀ args out, (∀ c ∈ args, Sm c) → F args = some out → ∃ N n, evFn real T (tw.env real T N n) N fn AOut args some = some out) : FspOk P f (toFsp F) where
  enter := hf.enter
  nat := toFsp_nat F
  calls := fun args out hout M w cargs hM hl hr => by
    have hsm : ∀ c ∈ args, Sm c := fun c hc => by
      obtain ⟨j, hj, rfl⟩ := List.mem_iff_getElem.1 hc
      exact (hr j _ _ (List.getElem?_eq_getElem hj) (Array.getElem?_eq_getElem (by omega))).sm
    obtain ⟨N, n, hN⟩ := hF args out hsm (toFsp_some hout)
    exact (fn_ok hm hT (tower_ok hm hT ht N n) N hf.get hf.enter).calls args out hN M w cargs hM hl hr
end
end Go.Proofs.Yteaadpgpihggeaa

namespace Go.Proofs.Yteaadpgpihggeaa
open Go.RowKit
def AVal.v0 : AVal → Value
  | .int k n => .int k n
  | .bool b => .bool b
  | .str s => .string s
  | .fn f [] => .func (.func f) #[] #[]
  | _ => .nilIface
def AVal.v1 : AVal → Value
  | .agg cs => .agg (cs.map AVal.v0).toArray
  | v => v.v0
def AVal.v2 : AVal → Value
  | .tup cs => .tuple (cs.map AVal.v1).toArray
  | .ifc t v => .iface t v.v1
  | v => v.v1
def AVal.p0 : AVal → Bool
  | .int _ _ | .bool _ | .str _ | .fn _ [] => true
  | _ => false
def AVal.p1 : AVal → Bool
  | .agg cs => cs.all AVal.p0
  | v => v.p0
def AVal.p2 : AVal → Bool
  | .tup cs => cs.all AVal.p1
  | .ifc _ v => v.p1
  | v => v.p1
theorem rep_p0 {h g w} {v : AVal} {x : Value} (r : Rep h g w v x) (hp : v.p0 = true) : x = v.v0 := by
  cases r <;> first | (simp [AVal.p0] at hp; done) | rfl | skip
  rename_i f cs arr hl _
  cases cs with
  | nil =>
    have : arr = #[] := Array.eq_empty_of_size_eq_zero hl.symm
    subst this; rfl
  | cons a b => simp [AVal.p0] at hp
theorem rep_p1 {h g w} {v : AVal} {x : Value} (r : Rep h g w v x) (hp : v.p1 = true) : x = v.v1 := by
  cases r with
  | agg cs arr hl hr =>
    simp only [AVal.v1, Value.agg.injEq]
    apply Array.ext
    · simp [hl]
    · intro j h1 h2
      have hj : j < cs.length := by simpa using h2
      have := rep_p0 (hr j cs[j] arr[j] (List.getElem?_eq_getElem hj) (Array.getElem?_eq_getElem h1)) (List.all_eq_true.1 hp _ (List.getElem_mem hj))
      rw [this]; simp
  | any v => simp [AVal.p1, AVal.p0] at hp
  | undef => simp [AVal.p1, AVal.p0] at hp
  | int k n => rfl
  | bool b => rfl
  | str b => rfl
  | fn f cs arr hl hr => exact rep_p0 (.fn f cs arr hl hr) hp
  | _ => simp [AVal.p1, AVal.p0] at hp
theorem rep_v0 {h g w} {v : AVal} (hp : v.p0 = true) : Rep h g w v v.v0 := by
  cases v <;> first | (simp [AVal.p0] at hp; done) | constructor | skip
  rename_i f cs
  cases cs with
  | nil => exact .fn f [] #[] rfl fun j c x hc => by simp at hc
  | cons a b => simp [AVal.p0] at hp
theorem rep_v1 {h g w} {v : AVal} (hp : v.p1 = true) : Rep h g w v v.v1 := by
  unfold AVal.p1 at hp
  split at hp
  · rename_i cs
    refine .agg cs _ (by simp) fun j c x hc hx => ?_
    have hj := (List.getElem?_eq_some_iff.1 hc).1
    simp [hc] at hx
    subst hx
    exact rep_v0 (List.all_eq_true.1 hp c (List.mem_of_getElem? hc))
  · rename_i hn
    have : v.v1 = v.v0 := by unfold AVal.v1; split <;> first | rfl | exact absurd rfl (hn _)
    rw [this]; exact rep_v0 hp
theorem rep_v2 {h g w} {v : AVal} (hp : v.p2 = true) : Rep h g w v v.v2 := by
  unfold AVal.p2 at hp
  split at hp
  · rename_i cs
    refine .tup cs _ (by simp) fun j c x hc hx => ?_
    simp [hc] at hx
    subst hx
    exact rep_v1 (List.all_eq_true.1 hp c (List.mem_of_getElem? hc))
  · rename_i t v
    exact .ifc t v _ (rep_v1 hp)
  · rename_i h1 h2
    have : v.v2 = v.v1 := by unfold AVal.v2; split <;> first | rfl | exact absurd rfl (h1 _) | exact absurd rfl (h2 _ _)
    rw [this]; exact rep_v1 hp
theorem reps_p1 {h g w} {args : List AVal} {cargs : Array Value} (hl : args.length = cargs.size) (hr : ∀ (j : Nat) c x, args[j]? = some c → cargs[j]? = some x → Rep h g w c x) (hp : args.all AVal.p1 = true) : cargs = (args.map AVal.v1).toArray := by
  apply Array.ext
  · simp [hl]
  · intro j h1 h2
    have hj : j < args.length := by simpa using h2
    have := rep_p1 (hr j args[j] cargs[j] (List.getElem?_eq_getElem hj) (Array.getElem?_eq_getElem h1)) (List.all_eq_true.1 hp _ (List.getElem_mem hj))
    rw [this]; simp
def AOut.plain : AOut → Bool
  | .ret v => v.p2
  | .pan v => v.p2
def AOut.ending : AOut → Ending
  | .ret v => .returned v.v2
  | .pan v => .panicked [{ v := v.v2, recovered := false }]
theorem fsp_walk {P : Program} {f : FuncId} {F : List AVal → Option AOut} (hen : ∀ args w, (callFunc f args).run P w = .ok (.enter f args) w)
    (h : ∀ args out, F args = some out → args.all AVal.p1 = true ∧ out.plain = true ∧ ∀ w, Calls P f (args.map AVal.v1).toArray w fun e w' => e = out.ending ∧ Below w.heap.size w w') : FspOk P f (toFsp F) where
  enter := hen
  nat := toFsp_nat F
  calls := fun args out hout M w cargs hM hl hr => by
    obtain ⟨h1, h2, h3⟩ := h args out (toFsp_some hout)
    rw [reps_p1 hl hr h1]
    refine (h3 w).mono ?_
    rintro e w' ⟨rfl, hb⟩
    refine ⟨M, fun _ h => h, fun _ h => .inl h, fun b h => Nat.lt_of_lt_of_le (hM b h) hb.size, hb, ?_⟩
    cases out with
    | ret v => exact ⟨_, rfl, rep_v2 h2⟩
    | pan v => exact ⟨_, rfl, rep_v2 h2⟩
def extS (S : Fsp) (_ : Cv) : Cv := fun _ v args h k =>
  match v with
  | .fn _ [] => S _ args fun o =>
    match o with
    | .ret r => k .normal r h
    | .pan _ => none
  | _ => none
theorem ext_at {P : Program} {f : FuncId} {S : Fsp} (hn : ∀ (α : Type) args (k : AOut → Option α), S α args k = (S AOut args some).bind k)
    (hF : ∀ args out, S AOut args some = some out → ∃ r, out = .ret r ∧ (∃ c, args[0]? = some c ∧ ∀ f cs, c ≠ .fn f cs) ∧ args.all AVal.p1 = true ∧ r.p2 = true ∧ ∀ w, (callFunc f (args.map AVal.v1).toArray).run P w = .ok (.value r.v2) w) (cv : Cv) (_ : CvOk P cv) (caps : List AVal) : CvAt P (extS S cv) (.fn f caps) where
  nat := fun α args h k => by
    unfold extS
    cases caps with
    | nil =>
      simp only
      rw [hn, hn _ _ fun o => match o with | .ret r => tripE .normal r h | .pan _ => none]
      cases S AOut args some with
      | none => rfl
      | some o => cases o <;> rfl
    | cons a b => rfl
  ok := fun args h x u h1 hk K g w fv cargs s hfv hl hr => by
    unfold extS at hk
    cases caps with
    | cons a b => cases hk
    | nil =>
      simp only at hk
      rw [hn] at hk
      cases hq : S AOut args some with
      | none => rw [hq] at hk; cases hk
      | some o =>
        obtain ⟨r, rfl, ⟨c0, e0, e0'⟩, e1, e2, e3⟩ := hF args _ hq
        rw [hq] at hk
        cases hk
        have hc := reps_p1 hl hr e1
        have hfv' := rep_p1 hfv rfl
        subst hfv'
        refine .inr (.inr ⟨f, #[], _, rfl, ?_, ?_, g, s, .refl, _, rfl, rep_v2 e2⟩)
        · rw [hc]
          refine ⟨c0.v1, by simp [e0], fun a b c => ?_⟩
          have hp := List.all_eq_true.1 e1 c0 (List.mem_of_getElem? e0)
          cases c0 <;> simp [AVal.v1, AVal.v0]
          exact absurd rfl (e0' _ _)
        · rw [Array.append_empty, hc]; exact e3 w
end Go.Proofs.Yteaadpgpihggeaa

namespace Go.Proofs.Yteaadpgpihggeaa
open Go.RowKit
def lookF : List (Nat × Func) → Nat → Option Func
  | [], _ => none
  | (u, e) :: r, t => if t = u then some e else lookF r t
def AllFn (P : Program) : List (Nat × Func) → Prop
  | [] => True
  | (u, e) :: r => FnOk P u e ∧ AllFn P r
theorem allCons {P : Program} {u : Nat} {e : Func} {l : List (Nat × Func)} (h : FnOk P u e) (r : AllFn P l) : AllFn P ((u, e) :: l) := ⟨h, r⟩
theorem look_ok {P : Program} : ∀ {l : List (Nat × Func)}, AllFn P l → ∀ f fn, lookF l f = some fn → FnOk P f fn
  | [], _, f, fn, h => by cases h
  | (u, e) :: r, ha, f, fn, h => by
    simp only [lookF] at h
    split at h
    · rename_i e1; cases h; subst e1; exact ha.1
    · exact look_ok ha.2 f fn h
noncomputable def fnsT : List (Nat × Func) := [(3, Try.f3), (4, Try.f4), (5, Try.f5), (6, Try.f6), (7, Try.f7), (8, Try.f8), (9, Try.f9), (10, Try.f10), (11, Try.f11), (12, Try.f12), (13, Try.f13), (14, Try.f14), (15, Try.f15), (16, Try.f16), (17, Try.f17), (18, Try.f18), (19, Try.f19), (20, Try.f20), (21, Try.f21), (22, Try.f22), (23, Try.f23), (24, Try.f24), (25, Try.f25), (26, Try.f26), (27, Try.f27), (28, Try.f28), (29, Try.f29), (30, Try.f30), (31, Try.f31), (32, Try.f32), (33, Try.f33), (34, Try.f34), (35, Try.f35), (36, Try.f36), (37, Try.f37), (38, Try.f38), (39, Try.f39), (40, Try.f40), (41, Try.f41), (42, Try.f42), (43, Try.f43), (44, Try.f44), (45, Try.f45), (46, Try.f46), (47, Try.f47), (48, Try.f48), (49, Try.f49), (50, Try.f50), (51, Try.f51), (52, Try.f52), (53, Try.f53), (54, Try.f54), (55, Try.f55), (56, Try.f56), (57, Try.f57), (58, Try.f58), (59, Try.f59), (60, Try.f60), (61, Try.f61), (62, Try.f62), (63, Try.f63), (64, Try.f64), (65, Try.f65), (67, Try.f67), (68, Try.f68), (69, Try.f69), (70, Try.f70), (71, Try.f71), (72, Try.f72), (73, Try.f73)]
theorem fnsT_ok : AllFn Try.prog fnsT :=
  allCons ⟨Try.func3, fun _ _ => by kernel_rfl⟩ <|
  allCons ⟨Try.func4, fun _ _ => by kernel_rfl⟩ <|
  allCons ⟨Try.func5, fun _ _ => by kernel_rfl⟩ <|
  allCons ⟨Try.func6, fun _ _ => by kernel_rfl⟩ <|
  allCons ⟨Try.func7, fun _ _ => by kernel_rfl⟩ <|
  allCons ⟨Try.func8, fun _ _ => by kernel_rfl⟩ <|
  allCons ⟨Try.func9, fun _ _ => by kernel_rfl⟩ <|
  allCons ⟨Try.func10, fun _ _ => by kernel_rfl⟩ <|
  allCons ⟨Try.func11, fun _ _ => by kernel_rfl⟩ <|
  allCons ⟨Try.func12, fun _ _ => by kernel_rfl⟩ <|
  allCons ⟨Try.func13, fun _ _ => by kernel_rfl⟩ <|
  allCons ⟨Try.func14, fun _ _ => by kernel_rfl⟩ <|
  allCons ⟨Try.func15, fun _ _ => by kernel_rfl⟩ <|
  allCons ⟨Try.func16, fun _ _ => by kernel_rfl⟩ <|
  allCons ⟨Try.func17, fun _ _ => by kernel_rfl⟩ <|
  allCons ⟨Try.func18, fun _ _ => by kernel_rfl⟩ <|
  allCons ⟨Try.func19, fun _ _ => by kernel_rfl⟩ <|
  allCons ⟨Try.func20, fun _ _ => by kernel_rfl⟩ <|
  allCons ⟨Try.func21, fun _ _ => by kernel_rfl⟩ <|
  allCons ⟨Try.func22, fun _ _ => by kernel_rfl⟩ <|
  allCons ⟨Try.func23, fun _ _ => by kernel_rfl⟩ <|
  allCons ⟨Try.func24, fun _ _ => by kernel_rfl⟩ <|
  allCons ⟨Try.func25, fun _ _ => by kernel_rfl⟩ <|
  allCons ⟨Try.func26, fun _ _ => by kernel_rfl⟩ <|
  allCons ⟨Try.func27, fun _ _ => by kernel_rfl⟩ <|
  allCons ⟨Try.func28, fun _ _ => by kernel_rfl⟩ <|
  allCons ⟨Try.func29, fun _ _ => by kernel_rfl⟩ <|
  allCons ⟨Try.func30, fun _ _ => by kernel_rfl⟩ <|
  allCons ⟨Try.func31, fun _ _ => by kernel_rfl⟩ <|
  allCons ⟨Try.func32, fun _ _ => by kernel_rfl⟩ <|
  allCons ⟨Try.func33, fun _ _ => by kernel_rfl⟩ <|
  allCons ⟨Try.func34, fun _ _ => by kernel_rfl⟩ <|
  allCons ⟨Try.func35, fun _ _ => by kernel_rfl⟩ <|
  allCons ⟨Try.func36, fun _ _ => by kernel_rfl⟩ <|
  allCons ⟨Try.func37, fun _ _ => by kernel_rfl⟩ <|
  allCons ⟨Try.func38, fun _ _ => by kernel_rfl⟩ <|
  allCons ⟨Try.func39, fun _ _ => by kernel_rfl⟩ <|
  allCons ⟨Try.func40, fun _ _ => by kernel_rfl⟩ <|
  allCons ⟨Try.func41, fun _ _ => by kernel_rfl⟩ <|
  allCons ⟨Try.func42, fun _ _ => by kernel_rfl⟩ <|
  allCons ⟨Try.func43, fun _ _ => by kernel_rfl⟩ <|
  allCons ⟨Try.func44, fun _ _ => by kernel_rfl⟩ <|
  allCons ⟨Try.func45, fun _ _ => by kernel_rfl⟩ <|
  allCons ⟨Try.func46, fun _ _ => by kernel_rfl⟩ <|
  allCons ⟨Try.func47, fun _ _ => by kernel_rfl⟩ <|
  allCons ⟨Try.func48, fun _ _ => by kernel_rfl⟩ <|
  allCons ⟨Try.func49, fun _ _ => by kernel_rfl⟩ <|
  allCons ⟨Try.func50, fun _ _ => by kernel_rfl⟩ <|
  allCons ⟨Try.func51, fun _ _ => by kernel_rfl⟩ <|
  allCons ⟨Try.func52, fun _ _ => by kernel_rfl⟩ <|
  allCons ⟨Try.func53, fun _ _ => by kernel_rfl⟩ <|
  allCons ⟨Try.func54, fun _ _ => by kernel_rfl⟩ <|
  allCons ⟨Try.func55, fun _ _ => by kernel_rfl⟩ <|
  allCons ⟨Try.func56, fun _ _ => by kernel_rfl⟩ <|
  allCons ⟨Try.func57, fun _ _ => by kernel_rfl⟩ <|
  allCons ⟨Try.func58, fun _ _ => by kernel_rfl⟩ <|
  allCons ⟨Try.func59, fun _ _ => by kernel_rfl⟩ <|
  allCons ⟨Try.func60, fun _ _ => by kernel_rfl⟩ <|
  allCons ⟨Try.func61, fun _ _ => by kernel_rfl⟩ <|
  allCons ⟨Try.func62, fun _ _ => by kernel_rfl⟩ <|
  allCons ⟨Try.func63, fun _ _ => by kernel_rfl⟩ <|
  allCons ⟨Try.func64, fun _ _ => by kernel_rfl⟩ <|
  allCons ⟨Try.func65, fun _ _ => by kernel_rfl⟩ <|
  allCons ⟨Try.func67, fun _ _ => by kernel_rfl⟩ <|
  allCons ⟨Try.func68, fun _ _ => by kernel_rfl⟩ <|
  allCons ⟨Try.func69, fun _ _ => by kernel_rfl⟩ <|
  allCons ⟨Try.func70, fun _ _ => by kernel_rfl⟩ <|
  allCons ⟨Try.func71, fun _ _ => by kernel_rfl⟩ <|
  allCons ⟨Try.func72, fun _ _ => by kernel_rfl⟩ <|
  allCons ⟨Try.func73, fun _ _ => by kernel_rfl⟩ <|
  trivial
end Go.Proofs.Yteaadpgpihggeaa

namespace Go.Proofs.Yteaadpgpihggeaa
open Go.RowKit
def mnG (a x : Int) : Int := if x < a then x else a
def mxG (a x : Int) : Int := if a < x then x else a
def mnL (l : List Int) : Int := l.foldl mnG (l.getD 0 0)
def mxL (l : List Int) : Int := l.foldl mxG (l.getD 0 0)
def dotA (xs ls : List Int) (a : Int) : Nat → Int
  | 0 => a
  | i + 1 => IntKind.i64.wrap (dotA xs ls a i + IntKind.i64.wrap (xs.getD i 0 * ls.getD i 0))
section
variable {α : Type} (N : Nat)
def minLoop (ls : List Int) (K : Int → Option α) : Option α :=
  afterL (iterL N (fun x : Int × Int × Unit =>
      bif decide (x.2.1 < (ls.length : Int)) then
        if 0 ≤ x.2.1 ∧ x.2.1 < (ls.length : Int) then
          some (LRes.cont (if ls.getD x.2.1.toNat (Int.ofNat 0) < x.1 then ls.getD x.2.1.toNat (Int.ofNat 0) else x.1, IntKind.i64.wrap (x.2.1 + 1), ()))
        else none
      else some (LRes.brk 0 (x.1, x.2.1, ()))) (ls.getD (Int.toNat 0) (Int.ofNat 0), 1, ()))
    fun id y => if id = 0 then K y.1 else none
def maxLoop (ls : List Int) (K : Int → Option α) : Option α :=
  afterL (iterL N (fun x : Int × Int × Unit =>
      bif decide (x.2.1 < (ls.length : Int)) then
        if 0 ≤ x.2.1 ∧ x.2.1 < (ls.length : Int) then
          some (LRes.cont (if x.1 < ls.getD x.2.1.toNat (Int.ofNat 0) then ls.getD x.2.1.toNat (Int.ofNat 0) else x.1, IntKind.i64.wrap (x.2.1 + 1), ()))
        else none
      else some (LRes.brk 0 (x.1, x.2.1, ()))) (ls.getD (Int.toNat 0) (Int.ofNat 0), 1, ()))
    fun id y => if id = 0 then K y.1 else none
def dotLoop (xs ls : List Int) (a : Int) (K : Int → Option α) : Option α :=
  afterL (iterL N (fun x : Int × Int × Unit =>
      bif decide (x.2.1 < (xs.length : Int)) then
        if 0 ≤ x.2.1 ∧ x.2.1 < (xs.length : Int) then
          if 0 ≤ x.2.1 ∧ x.2.1 < (ls.length : Int) then
            some (LRes.cont (IntKind.i64.wrap (x.1 + IntKind.i64.wrap (xs.getD x.2.1.toNat (Int.ofNat 0) * ls.getD x.2.1.toNat (Int.ofNat 0))), IntKind.i64.wrap (x.2.1 + 1), ()))
          else none
        else none
      else some (LRes.brk 0 (x.1, x.2.1, ()))) (a, 0, ()))
    fun id y => if id = 0 then K y.1 else none
def mmLoop (xs ls : List Int) (K : Int → Int → Int → Int → Option α) : Option α :=
  afterL (iterL N (fun x : Int × Int × Int × Int × Int × Unit =>
      bif decide (x.2.2.2.2.1 < (xs.length : Int)) then
        if 0 ≤ x.2.2.2.2.1 ∧ x.2.2.2.2.1 < (xs.length : Int) then
          if 0 ≤ x.2.2.2.2.1 ∧ x.2.2.2.2.1 < (ls.length : Int) then
            if 0 ≤ x.2.2.2.2.1 ∧ x.2.2.2.2.1 < (xs.length : Int) then
              if 0 ≤ x.2.2.2.2.1 ∧ x.2.2.2.2.1 < (ls.length : Int) then
                if 0 ≤ x.2.2.2.2.1 ∧ x.2.2.2.2.1 < (ls.length : Int) then
                  if 0 ≤ x.2.2.2.2.1 ∧ x.2.2.2.2.1 < (ls.length : Int) then
                    some (LRes.cont (IntKind.i64.wrap (x.1 + IntKind.i64.wrap (xs.getD x.2.2.2.2.1.toNat (Int.ofNat 0) * ls.getD x.2.2.2.2.1.toNat (Int.ofNat 0))),
                      IntKind.i64.wrap (x.2.1 + IntKind.i64.wrap (xs.getD x.2.2.2.2.1.toNat (Int.ofNat 0) * ls.getD x.2.2.2.2.1.toNat (Int.ofNat 0))),
                      if ls.getD x.2.2.2.2.1.toNat (Int.ofNat 0) < x.2.2.1 then ls.getD x.2.2.2.2.1.toNat (Int.ofNat 0) else x.2.2.1,
                      if x.2.2.2.1 < ls.getD x.2.2.2.2.1.toNat (Int.ofNat 0) then ls.getD x.2.2.2.2.1.toNat (Int.ofNat 0) else x.2.2.2.1,
                      IntKind.i64.wrap (x.2.2.2.2.1 + 1), ()))
                  else none
                else none
              else none
            else none
          else none
        else none
      else some (LRes.brk 0 (x.1, x.2.1, x.2.2.1, x.2.2.2.1, x.2.2.2.2.1, ()))) (0, 0, ls.getD (Int.toNat 0) (Int.ofNat 0), ls.getD (Int.toNat 0) (Int.ofNat 0), 0, ()))
    fun id y => if id = 0 then K y.1 y.2.1 y.2.2.1 y.2.2.2.1 else none
end
def look : List (Nat × Func) → Nat → Option Func
  | [], _ => none
  | (u, e) :: r, t => if t = u then some e else look r t
noncomputable def twM : Tower := ⟨env12, fun _ => false, fun _ => none, lookF fnsT⟩
def smean3 (a b e : Int) : AOut := .ret (.tup [iv a, iv b, iv e])
def rmean3 (a b e : Int) : AOut := .ret (.tup [.agg [iv a, iv b], iv e])
def panS (t : Nat) (bs : Array UInt8) : AOut := .pan (.ifc t (.str ⟨bs⟩))
theorem smean_text (N : Nat) (α : Type) (xs ls : List Int) (m : Int) (k : AOut → Option α) : evFn real tab (twM.env real tab N 3) N Try.f7 α [.ro (.int .i64) xs, .ro (.int .i64) ls, .int .i64 m] k =
 bif !cntB xs then k (smean3 0 0 2) else bif (ls.length : Int) != (xs.length : Int) then k (smean3 0 0 2) else bif ls.any outB then k (smean3 0 0 2) else bif !inB m 1 1000 then k
 (smean3 0 0 2) else bif decide ((ls.length : Int) < 1) then k (panS 9 #[115, 108, 105, 99, 101, 115, 46, 77, 105, 110, 58, 32, 101, 109, 112, 116, 121, 32, 108, 105, 115, 116]) else
 if (0 : Int) ≤ 0 ∧ 0 < (ls.length : Int) then minLoop N ls fun a => dotLoop N xs ls (IntKind.i64.wrap (m * a)) fun t => if shareOk 1 t (IntKind.i64.wrap (sumW xs + m)) then bif
 decide ((ls.length : Int) < 1) then k (panS 9 #[115, 108, 105, 99, 101, 115, 46, 77, 97, 120, 58, 32, 101, 109, 112, 116, 121, 32, 108, 105, 115, 116]) else if (0 : Int) ≤ 0 ∧ 0 <
 (ls.length : Int) then maxLoop N ls fun b => dotLoop N xs ls (IntKind.i64.wrap (m * b)) fun u => if shareOk 2 u (IntKind.i64.wrap (sumW xs + m)) then k (smean3 (rndQ 1 t
 (IntKind.i64.wrap (sumW xs + m))) (rndQ 2 u (IntKind.i64.wrap (sumW xs + m))) 0) else none else none else none else none := by kernel_rfl
theorem smean_enter (args : Array Value) (w : World) : (callFunc 7 args).run Try.prog w = .ok (.enter 7 args) w := by kernel_rfl
theorem smean1_enter (args : Array Value) (w : World) : (callFunc 17 args).run Try.prog w = .ok (.enter 17 args) w := by kernel_rfl
theorem smin_enter (args : Array Value) (w : World) : (callFunc 18 args).run Try.prog w = .ok (.enter 18 args) w := by kernel_rfl
theorem smax_enter (args : Array Value) (w : World) : (callFunc 19 args).run Try.prog w = .ok (.enter 19 args) w := by kernel_rfl
theorem twM_ok : TwOk Try.prog twM where
  fs := env12_ok.fs
  sp := fun f S h => by cases h
  fn := look_ok fnsT_ok
end Go.Proofs.Yteaadpgpihggeaa

namespace Go.Proofs.Yteaadpgpihggeaa
open Go.RowKit
def meanB (xs ls : List Int) (m : Int) : Bool := cntB xs && (valsB ls (List.length (α := Int) xs) && inB m 1 1000)
def totL (xs ls : List Int) (m : Int) : Int := dotA xs ls (IntKind.i64.wrap (m * mnL ls)) (List.length (α := Int) xs)
def totH (xs ls : List Int) (m : Int) : Int := dotA xs ls (IntKind.i64.wrap (m * mxL ls)) (List.length (α := Int) xs)
def smeanF : List AVal → Option AOut
  | [.ro (.int .i64) xs, .ro (.int .i64) ls, .int .i64 m] => bif meanB xs ls m then some (smean3 (rndQ 1 (totL xs ls m) (denC xs m)) (rndQ 2 (totH xs ls m) (denC xs m)) 0) else some (smean3 0 0 2)
  | _ => none
def rmeanF : List AVal → Option AOut
  | [.ro (.int .i64) xs, .ro (.int .i64) ls, .int .i64 m] => bif meanB xs ls m then some (rmean3 (rndQ 1 (totL xs ls m) (denC xs m)) (rndQ 2 (totH xs ls m) (denC xs m)) 0) else some (rmean3 0 0 2)
  | _ => none
theorem i64_w (n : Int) (h : -9223372036854775808 ≤ n ∧ n ≤ 9223372036854775807) : IntKind.i64.wrap n = n := by rw [IntKind.wrap_i64]; omega
theorem wadd (x y : Int) : IntKind.i64.wrap (IntKind.i64.wrap x + IntKind.i64.wrap y) = IntKind.i64.wrap (x + y) := by simp only [IntKind.wrap_i64]; omega
theorem waddl (x y : Int) : IntKind.i64.wrap (IntKind.i64.wrap x + y) = IntKind.i64.wrap (x + y) := by simp only [IntKind.wrap_i64]; omega
theorem wwrap (x : Int) : IntKind.i64.wrap (IntKind.i64.wrap x) = IntKind.i64.wrap x := by simp only [IntKind.wrap_i64]; omega
theorem fold_one {g : Int → Int → Int} (hg : ∀ a, g a a = a) (ls : List Int) (h : 1 ≤ ls.length) : (ls.take 1).foldl g (ls.getD 0 0) = ls.getD 0 0 := by
  cases ls with
  | nil => simp at h
  | cons a r => simp [hg]
theorem mnG_same (a : Int) : mnG a a = a := by unfold mnG; split <;> rfl
theorem mxG_same (a : Int) : mxG a a = a := by unfold mxG; split <;> rfl
section
variable {α : Type} {N : Nat}
theorem min_plain (ls : List Int) (h1 : 1 ≤ ls.length) (hl : ls.length ≤ maxLen) (hN : ls.length < N) (K : Int → Option α) : minLoop N ls K = K (mnL ls) := by
  unfold minLoop
  generalize hf : (fun x : Int × Int × Unit => (_ : Option (LRes (Int × Int × Unit) α))) = f
  have e : iterL N f (ls.getD (Int.toNat 0) (Int.ofNat 0), 1, ()) = some (.brk 0 (mnL ls, (ls.length : Int), ())) := by
    refine (congrArg (iterL N f) ?_).trans (iterL_count (f := f) (fun i : Nat => ((ls.take i).foldl mnG (ls.getD 0 0), (i : Int), ())) (fun y e => by cases e) ls.length (fun i hi => ?_) ?_ 1 h1 N (by omega))
    · rw [fold_one mnG_same ls h1]; rfl
    · rw [← hf]
      have h1 : decide ((i : Int) < (ls.length : Int)) = true := decide_eq_true (by omega)
      have h2 : IntKind.i64.wrap ((i : Int) + 1) = ((i + 1 : Nat) : Int) := wrap_small (n := i + 1) (by omega)
      simp only [h1, cond_true, h2]
      rw [if_pos ⟨by omega, by omega⟩, take_fold _ _ _ _ hi]
      rfl
    · rw [← hf]
      have h1 : decide ((ls.length : Int) < (ls.length : Int)) = false := decide_eq_false (by omega)
      simp only [h1, cond_false, List.take_length]
      rfl
  rw [e]
  rfl
theorem max_plain (ls : List Int) (h1 : 1 ≤ ls.length) (hl : ls.length ≤ maxLen) (hN : ls.length < N) (K : Int → Option α) : maxLoop N ls K = K (mxL ls) := by
  unfold maxLoop
  generalize hf : (fun x : Int × Int × Unit => (_ : Option (LRes (Int × Int × Unit) α))) = f
  have e : iterL N f (ls.getD (Int.toNat 0) (Int.ofNat 0), 1, ()) = some (.brk 0 (mxL ls, (ls.length : Int), ())) := by
    refine (congrArg (iterL N f) ?_).trans (iterL_count (f := f) (fun i : Nat => ((ls.take i).foldl mxG (ls.getD 0 0), (i : Int), ())) (fun y e => by cases e) ls.length (fun i hi => ?_) ?_ 1 h1 N (by omega))
    · rw [fold_one mxG_same ls h1]; rfl
    · rw [← hf]
      have h1 : decide ((i : Int) < (ls.length : Int)) = true := decide_eq_true (by omega)
      have h2 : IntKind.i64.wrap ((i : Int) + 1) = ((i + 1 : Nat) : Int) := wrap_small (n := i + 1) (by omega)
      simp only [h1, cond_true, h2]
      rw [if_pos ⟨by omega, by omega⟩, take_fold _ _ _ _ hi]
      rfl
    · rw [← hf]
      have h1 : decide ((ls.length : Int) < (ls.length : Int)) = false := decide_eq_false (by omega)
      simp only [h1, cond_false, List.take_length]
      rfl
  rw [e]
  rfl
theorem dot_plain (xs ls : List Int) (a : Int) (he : ls.length = xs.length) (hl : xs.length ≤ maxLen) (hN : xs.length < N) (K : Int → Option α) : dotLoop N xs ls a K = K (dotA xs ls a xs.length) := by
  unfold dotLoop
  generalize hf : (fun x : Int × Int × Unit => (_ : Option (LRes (Int × Int × Unit) α))) = f
  have e : iterL N f (a, 0, ()) = some (.brk 0 (dotA xs ls a xs.length, (xs.length : Int), ())) := by
    refine iterL_count (f := f) (fun i : Nat => (dotA xs ls a i, (i : Int), ())) (fun y e => by cases e) xs.length (fun i hi => ?_) ?_ 0 (Nat.zero_le _) N (by omega)
    · rw [← hf]
      have h1 : decide ((i : Int) < (xs.length : Int)) = true := decide_eq_true (by omega)
      have h2 : IntKind.i64.wrap ((i : Int) + 1) = ((i + 1 : Nat) : Int) := wrap_small (n := i + 1) (by omega)
      simp only [h1, cond_true, h2]
      rw [if_pos ⟨by omega, by omega⟩, if_pos ⟨by omega, by omega⟩]
      rfl
    · rw [← hf]
      have h1 : decide ((xs.length : Int) < (xs.length : Int)) = false := decide_eq_false (by omega)
      simp only [h1, cond_false]
  rw [e]
  rfl
theorem mm_plain (xs ls : List Int) (he : ls.length = xs.length) (hl : xs.length ≤ maxLen) (hN : xs.length < N) (K : Int → Int → Int → Int → Option α) : mmLoop N xs ls K = K (dotA xs ls 0 xs.length) (dotA xs ls 0 xs.length) (mnL ls) (mxL ls) := by
  unfold mmLoop
  generalize hf : (fun x : Int × Int × Int × Int × Int × Unit => (_ : Option (LRes (Int × Int × Int × Int × Int × Unit) α))) = f
  have e : iterL N f (0, 0, ls.getD (Int.toNat 0) (Int.ofNat 0), ls.getD (Int.toNat 0) (Int.ofNat 0), 0, ()) = some (.brk 0 (dotA xs ls 0 xs.length, dotA xs ls 0 xs.length, mnL ls, mxL ls, (xs.length : Int), ())) := by
    refine iterL_count (f := f) (fun i : Nat => (dotA xs ls 0 i, dotA xs ls 0 i, (ls.take i).foldl mnG (ls.getD 0 0), (ls.take i).foldl mxG (ls.getD 0 0), (i : Int), ())) (fun y e => by cases e) xs.length (fun i hi => ?_) ?_ 0 (Nat.zero_le _) N (by omega)
    · rw [← hf]
      have h1 : decide ((i : Int) < (xs.length : Int)) = true := decide_eq_true (by omega)
      have h2 : IntKind.i64.wrap ((i : Int) + 1) = ((i + 1 : Nat) : Int) := wrap_small (n := i + 1) (by omega)
      have h3 : 0 ≤ (i : Int) ∧ (i : Int) < (xs.length : Int) := by omega
      have h4 : 0 ≤ (i : Int) ∧ (i : Int) < (ls.length : Int) := by omega
      simp only [h1, cond_true, h2]
      rw [if_pos h3, if_pos h4, if_pos h3, if_pos h4, if_pos h4, if_pos h4, take_fold _ _ _ _ (by omega : i < ls.length), take_fold _ _ _ _ (by omega : i < ls.length)]
      rfl
    · rw [← hf]
      have h1 : decide ((xs.length : Int) < (xs.length : Int)) = false := decide_eq_false (by omega)
      have h5 : ls.take xs.length = ls := by rw [← he, List.take_length]
      simp only [h1, cond_false, h5]
      rfl
  rw [e]
  rfl
end
/-! The numbers are small. -/
theorem cnt_at {xs : List Int} (h : cntB xs = true) (i : Nat) : 0 ≤ xs.getD i 0 ∧ xs.getD i 0 ≤ 1000000 := by
  unfold cntB at h
  simp only [Bool.and_eq_true, Bool.not_eq_true', List.any_eq_false] at h
  rcases Nat.lt_or_ge i xs.length with hi | hi
  · have := h.1 (xs.getD i 0) (by rw [List.getD_eq_getElem?_getD, List.getElem?_eq_getElem hi]; exact List.getElem_mem hi)
    simp only [Bool.not_eq_true', Bool.not_eq_false] at this
    exact inB_iff.1 this
  · rw [List.getD_eq_getElem?_getD, List.getElem?_eq_none hi]; simp
theorem val_mem {ls : List Int} {n : Int} (h : valsB ls n = true) : ∀ x ∈ ls, -68719476736 ≤ x ∧ x ≤ 68719476736 := fun x hx => by
  unfold valsB at h
  simp only [Bool.and_eq_true, Bool.not_eq_true', List.any_eq_false] at h
  have := h.1 x hx
  simp only [farB, Bool.or_eq_true, decide_eq_true_eq, not_or, Int.not_lt] at this
  omega
theorem val_at {ls : List Int} {n : Int} (h : valsB ls n = true) (i : Nat) : -68719476736 ≤ ls.getD i 0 ∧ ls.getD i 0 ≤ 68719476736 := by
  rcases Nat.lt_or_ge i ls.length with hi | hi
  · rw [List.getD_eq_getElem?_getD, List.getElem?_eq_getElem hi]
    exact val_mem h _ (List.getElem_mem hi)
  · rw [List.getD_eq_getElem?_getD, List.getElem?_eq_none hi]; simp
theorem fold_in {g : Int → Int → Int} (hg : ∀ a b, g a b = a ∨ g a b = b) {lo hi : Int} : ∀ (l : List Int) (a : Int), (lo ≤ a ∧ a ≤ hi) → (∀ x ∈ l, lo ≤ x ∧ x ≤ hi) → lo ≤ l.foldl g a ∧ l.foldl g a ≤ hi
  | [], a, ha, _ => ha
  | x :: l, a, ha, h => by
    rw [List.foldl_cons]
    refine fold_in hg l _ ?_ fun y hy => h y (List.mem_cons_of_mem _ hy)
    rcases hg a x with e | e <;> rw [e]
    · exact ha
    · exact h x (by simp)
theorem mnL_in {ls : List Int} {n : Int} (h : valsB ls n = true) : -68719476736 ≤ mnL ls ∧ mnL ls ≤ 68719476736 :=
  fold_in (fun a b => by unfold mnG; split <;> simp) ls _ (val_at h 0) (val_mem h)
theorem mxL_in {ls : List Int} {n : Int} (h : valsB ls n = true) : -68719476736 ≤ mxL ls ∧ mxL ls ≤ 68719476736 :=
  fold_in (fun a b => by unfold mxG; split <;> simp) ls _ (val_at h 0) (val_mem h)
def dotE (xs ls : List Int) : Nat → Int
  | 0 => 0
  | i + 1 => dotE xs ls i + xs.getD i 0 * ls.getD i 0
theorem mul_in {x y : Int} {A B : Int} (h1 : 0 ≤ x ∧ x ≤ A) (h2 : -B ≤ y ∧ y ≤ B) : -(A * B) ≤ x * y ∧ x * y ≤ A * B := by
  have hB : 0 ≤ B := by omega
  have e1 : x * y ≤ x * B := Int.mul_le_mul_of_nonneg_left h2.2 h1.1
  have e2 : x * B ≤ A * B := Int.mul_le_mul_of_nonneg_right h1.2 hB
  have e3 : x * (-B) ≤ x * y := Int.mul_le_mul_of_nonneg_left h2.1 h1.1
  rw [Int.mul_neg] at e3
  omega
theorem dotE_in {xs ls : List Int} {n : Int} (h1 : cntB xs = true) (h2 : valsB ls n = true) : ∀ i : Nat, -((i : Int) * 68719476736000000) ≤ dotE xs ls i ∧ dotE xs ls i ≤ (i : Int) * 68719476736000000
  | 0 => by simp [dotE]
  | i + 1 => by
    have := dotE_in h1 h2 i
    have h3 := mul_in (cnt_at h1 i) (val_at h2 i)
    simp only [dotE]
    omega
theorem dotA_eq (xs ls : List Int) (a : Int) : ∀ i, dotA xs ls (IntKind.i64.wrap a) i = IntKind.i64.wrap (a + dotE xs ls i)
  | 0 => by simp [dotA, dotE]
  | i + 1 => by
    simp only [dotA, dotE]
    rw [dotA_eq xs ls a i, wadd, Int.add_assoc]
theorem den_in {xs : List Int} {m : Int} (h1 : cntB xs = true) (h2 : inB m 1 1000 = true) : 1 ≤ denC xs m ∧ denC xs m ≤ 49001000 := by
  have hl := cnt_len h1
  have key : ∀ (i : Nat), i ≤ xs.length → 0 ≤ sumW (xs.take i) ∧ sumW (xs.take i) ≤ (i : Int) * 1000000 := fun i => by
    induction i with
    | zero => intro _; simp [sumW]
    | succ i ih =>
      intro hi
      have := ih (by omega)
      have h3 := cnt_at h1 i
      rw [sumW_succ _ _ (by omega), i64_w _ (by omega)]
      omega
  have := key xs.length (Nat.le_refl _)
  rw [List.take_length] at this
  have hm := inB_iff.1 h2
  unfold denC
  rw [i64_w _ (by omega)]
  omega
theorem div_in {a b : Int} (hb : 1 ≤ b) (h : -4611686018427387904 ≤ a ∧ a ≤ 4611686018427387904) : -4611686018427387904 ≤ a / b ∧ a / b ≤ 4611686018427387904 := by
  constructor
  · refine (Int.le_ediv_iff_mul_le (by omega)).2 ?_
    have : -4611686018427387904 * b ≤ -4611686018427387904 := by omega
    omega
  · refine Int.ediv_le_of_le_mul (by omega) ?_
    have : 4611686018427387904 ≤ 4611686018427387904 * b := by omega
    omega
theorem dn_rnd {a b : Int} (hb : 1 ≤ b) (h : -4611686018427387904 ≤ a ∧ a ≤ 4611686018427387904) : dnQ a b = a / b := by
  have hd := div_in hb h
  have hm0 := Int.emod_nonneg a (show b ≠ 0 by omega)
  have hm1 := Int.emod_lt_of_pos a (show 0 < b by omega)
  unfold dnQ
  rw [Int.tdiv_eq_ediv, Int.tmod_eq_emod]
  by_cases hc : 0 ≤ a ∨ b ∣ a
  · rw [if_pos hc, if_pos hc]
    have : decide (a % b - ((0 : Nat) : Int) < 0) = false := decide_eq_false (by omega)
    rw [this, cond_false, i64_w _ (by omega)]
    omega
  · rw [if_neg hc, if_neg hc, Int.sign_eq_one_of_pos (by omega)]
    have : decide (a % b - (b.natAbs : Int) < 0) = true := decide_eq_true (by omega)
    rw [this, cond_true, i64_w (a / b + 1) (by omega), i64_w _ (by omega)]
    omega
theorem tot_in {xs ls : List Int} {m v n : Int} (h1 : cntB xs = true) (h2 : valsB ls n = true) (h3 : inB m 1 1000 = true) (hv : -68719476736 ≤ v ∧ v ≤ 68719476736) :
    -4611686018427387904 ≤ m * v + dotE xs ls xs.length ∧ m * v + dotE xs ls xs.length ≤ 4611686018427387904 := by
  have hl := cnt_len h1
  have hd := dotE_in h1 h2 xs.length
  have hm := inB_iff.1 h3
  have hp := mul_in (x := m) (y := v) (A := 1000) (B := 68719476736) (by omega) hv
  omega
theorem rnd1 (a b : Int) : rndQ 1 a b = a / b := rfl
theorem rnd2 (a b : Int) : rndQ 2 a b = -((-a) / b) := rfl
theorem smean_plain {α : Type} (xs ls : List Int) (m : Int) (N : Nat) (hN : xs.length < N) (k : AOut → Option α) :
    evFn real tab (twM.env real tab N 3) N Try.f7 α [.ro (.int .i64) xs, .ro (.int .i64) ls, .int .i64 m] k = bif meanB xs ls m then k (smean3 (rndQ 1 (totL xs ls m) (denC xs m)) (rndQ 2 (totH xs ls m) (denC xs m)) 0) else k (smean3 0 0 2) := by
  rw [smean_text]
  unfold meanB
  have hv : valsB ls xs.length = (!(ls.any farB) && ((ls.length : Int) == (xs.length : Int))) := rfl
  have ho : ls.any outB = ls.any farB := by
    have : outB = farB := funext out_far
    rw [this]
  rw [hv, ho]
  cases hc : cntB xs
  · rfl
  · cases he : (ls.length : Int) == (xs.length : Int)
    · have : ((ls.length : Int) != (xs.length : Int)) = true := by rw [bne, he]; rfl
      simp only [this, Bool.not_true, cond_false, cond_true, Bool.and_false, Bool.false_and]
    · have hne : ((ls.length : Int) != (xs.length : Int)) = false := by rw [bne, he]; rfl
      have hlen : ls.length = xs.length := by have := eq_of_beq he; omega
      cases hf : ls.any farB
      · cases hm : inB m 1 1000
        · simp only [hne, Bool.not_true, Bool.not_false, cond_false, cond_true, Bool.and_false]
        · have hcl := cnt_len hc
          have hvb : valsB ls xs.length = true := by rw [hv, hf, he]; rfl
          have hl1 : decide ((ls.length : Int) < 1) = false := decide_eq_false (by omega)
          have hpos : (0 : Int) ≤ 0 ∧ 0 < (ls.length : Int) := by omega
          have hml : ls.length ≤ maxLen := by have : maxLen = 9223372036854775807 := rfl; omega
          have hd := den_in hc hm
          have hden : IntKind.i64.wrap (sumW xs + m) = denC xs m := rfl
          have eL : totL xs ls m = m * mnL ls + dotE xs ls xs.length := by
            unfold totL
            rw [dotA_eq, i64_w _ (by have := tot_in hc hvb hm (mnL_in hvb); omega)]
          have eH : totH xs ls m = m * mxL ls + dotE xs ls xs.length := by
            unfold totH
            rw [dotA_eq, i64_w _ (by have := tot_in hc hvb hm (mxL_in hvb); omega)]
          have okL : shareOk 1 (totL xs ls m) (denC xs m) := ⟨.inl rfl, by omega, by omega, by rw [eL]; exact tot_in hc hvb hm (mnL_in hvb)⟩
          have okH : shareOk 2 (totH xs ls m) (denC xs m) := ⟨.inr rfl, by omega, by omega, by rw [eH]; exact tot_in hc hvb hm (mxL_in hvb)⟩
          simp only [hne, hl1, hden, Bool.not_true, Bool.not_false, cond_false, cond_true, Bool.and_self]
          rw [if_pos hpos, min_plain ls (by omega) hml (by omega), dot_plain xs ls _ hlen (by omega) hN]
          show (if shareOk 1 (totL xs ls m) (denC xs m) then _ else none) = _
          rw [if_pos okL, if_pos hpos, max_plain ls (by omega) hml (by omega), dot_plain xs ls _ hlen (by omega) hN]
          show (if shareOk 2 (totH xs ls m) (denC xs m) then _ else none) = _
          rw [if_pos okH]
          rfl
      · simp only [hne, Bool.not_true, Bool.not_false, cond_false, cond_true, Bool.false_and, Bool.and_false]
theorem smean_fn : FnOk Try.prog 7 Try.f7 := ⟨Try.func7, smean_enter⟩
theorem smean_ok : FspOk Try.prog 7 (toFsp smeanF) := tower_fsp mixed tabOk twM_ok smean_fn fun args out hs hF => by
  unfold smeanF at hF
  split at hF
  · rename_i xs ls m
    refine ⟨_, 3, (smean_plain xs ls m _ (Nat.lt_succ_self _) some).trans ?_⟩
    cases hb : meanB xs ls m
    all_goals
      rw [hb] at hF
      exact hF
  · cases hF
end Go.Proofs.Yteaadpgpihggeaa

namespace Go.Proofs.Yteaadpgpihggeaa
open Go.RowKit
def sm : List Int → Int
  | [] => 0
  | x :: l => x + sm l
def preS (xs : List Int) : Nat → Int
  | 0 => 0
  | i + 1 => preS xs i + xs.getD i 0
theorem cnt_mem {xs : List Int} (h : cntB xs = true) : ∀ x ∈ xs, 0 ≤ x ∧ x ≤ 1000000 := fun x hx => by
  unfold cntB at h
  simp only [Bool.and_eq_true, Bool.not_eq_true', List.any_eq_false] at h
  have := h.1 x hx
  simp only [Bool.not_eq_true', Bool.not_eq_false] at this
  exact inB_iff.1 this
theorem sumW_sm : ∀ (l : List Int) (a : Int), (∀ x ∈ l, 0 ≤ x ∧ x ≤ 1000000) → 0 ≤ a → a + (l.length : Int) * 1000000 ≤ 4611686018427387904 → l.foldl (fun a x => IntKind.i64.wrap (a + x)) a = a + sm l
  | [], a, _, _, _ => by simp [sm]
  | x :: l, a, h, h0, h1 => by
    have hx := h x (by simp)
    rw [List.length_cons] at h1
    rw [List.foldl_cons, i64_w _ (by omega), sumW_sm l _ (fun y hy => h y (List.mem_cons_of_mem _ hy)) (by omega) (by omega)]
    simp only [sm]; omega
theorem sumW_cnt {xs : List Int} (h : cntB xs = true) (i : Nat) : sumW (xs.drop i) = sm (xs.drop i) := by
  have hl := cnt_len h
  unfold sumW
  have hle : (xs.drop i).length ≤ xs.length := by simp
  rw [sumW_sm _ 0 (fun x hx => cnt_mem h x (List.mem_of_mem_drop hx)) (by omega) (by omega)]
  omega
theorem sm_drop (xs : List Int) : ∀ i, i ≤ xs.length → sm (xs.drop i) + preS xs i = sm xs
  | 0, _ => by simp [preS]
  | i + 1, h => by
    have ih := sm_drop xs i (by omega)
    have e : xs.drop i = xs.getD i 0 :: xs.drop (i + 1) := by
      rw [List.drop_eq_getElem_cons (by omega), List.getD_eq_getElem?_getD, List.getElem?_eq_getElem (by omega)]
      rfl
    rw [e] at ih
    simp only [sm, preS] at ih ⊢
    omega
theorem pre_in {xs : List Int} (h : cntB xs = true) : ∀ i : Nat, 0 ≤ preS xs i ∧ preS xs i ≤ (i : Int) * 1000000
  | 0 => by simp [preS]
  | i + 1 => by
    have := pre_in h i
    have := cnt_at h i
    simp only [preS]
    omega
theorem dif_pre {xs ys : List Int} (h1 : cntB xs = true) (h2 : cntB ys = true) : ∀ i : Nat, i ≤ 49 → difW xs ys i = preS ys i - preS xs i
  | 0, _ => by simp [difW, preS]
  | i + 1, hi => by
    have a1 := pre_in h1 i
    have a2 := pre_in h2 i
    have a3 := cnt_at h1 i
    have a4 := cnt_at h2 i
    simp only [difW, preS]
    rw [dif_pre h1 h2 i (by omega), i64_w (ys.getD i 0 - xs.getD i 0) (by omega), i64_w _ (by omega)]
    omega
theorem better_same {xs ys : List Int} (h : twoOk xs ys = true) : sbetB xs ys = rbetB xs ys := by
  unfold twoOk at h
  simp only [Bool.and_eq_true, Bool.not_eq_true', bne_eq_false_iff_eq] at h
  obtain ⟨h1, h2, h3⟩ := h
  have hl : xs.length = ys.length := by omega
  have hn := cnt_len h1
  have hT : ∀ (l : List Int), cntB l = true → l.length = xs.length → sumW l = preS l xs.length := fun l hc e => by
    have := sumW_cnt hc 0
    rw [List.drop_zero] at this
    have h4 := sm_drop l l.length (Nat.le_refl _)
    rw [List.drop_length] at h4
    simp only [sm] at h4
    rw [this, ← e]; omega
  have eT : sumW xs = preS xs xs.length := hT xs h1 rfl
  have eU : sumW ys = preS ys xs.length := hT ys h2 hl.symm
  have hs : ∀ i, i ≤ xs.length → sumW (xs.drop i) = sumW xs - preS xs i ∧ sumW (ys.drop i) = sumW ys - preS ys i := fun i hi => by
    have a1 := sm_drop xs i hi
    have a2 := sm_drop ys i (by omega)
    have b1 := sumW_cnt h1 0
    have b2 := sumW_cnt h2 0
    rw [List.drop_zero] at b1 b2
    rw [sumW_cnt h1, sumW_cnt h2, b1, b2]
    omega
  have hd : ∀ i, i ≤ xs.length → difW xs ys i = preS ys i - preS xs i := fun i hi => dif_pre h1 h2 i (by omega)
  unfold sbetB rbetB
  by_cases he : sumW xs = sumW ys
  · have e1 : (sumW xs != sumW ys) = false := by simp [he]
    have e2 : (difW xs ys xs.length == 0) = true := by
      rw [beq_iff_eq, hd _ (Nat.le_refl _)]; omega
    rw [e1, e2, cond_false, Bool.and_true]
    congr 1
    rw [Bool.eq_iff_iff, List.any_eq_true, List.any_eq_true]
    constructor
    · rintro ⟨i, hi, hlt⟩
      have hi := List.mem_range.1 hi
      have hlt := of_decide_eq_true hlt
      rw [hd (i + 1) (by omega)] at hlt
      have hne : i + 1 ≠ xs.length := fun e => by rw [e] at hlt; omega
      refine ⟨i + 1, List.mem_range.2 (by omega), decide_eq_true ?_⟩
      obtain ⟨a, b⟩ := hs (i + 1) (by omega)
      rw [a, b]; omega
    · rintro ⟨i, hi, hlt⟩
      have hi := List.mem_range.1 hi
      have hlt := of_decide_eq_true hlt
      obtain ⟨a, b⟩ := hs i (by omega)
      rw [a, b] at hlt
      cases i with
      | zero => simp only [preS] at hlt; omega
      | succ i =>
        refine ⟨i, List.mem_range.2 (by omega), decide_eq_true ?_⟩
        rw [hd (i + 1) (by omega)]; omega
  · have e1 : (sumW xs != sumW ys) = true := by simp [he]
    have e2 : (difW xs ys xs.length == 0) = false := by
      rw [beq_eq_false_iff_ne, hd _ (Nat.le_refl _)]; omega
    rw [e1, e2, cond_true, Bool.and_false]
end Go.Proofs.Yteaadpgpihggeaa

namespace Go.Proofs.Yteaadpgpihggeaa
open Go.RowKit
abbrev spotV (x y : Int) : Value := .agg #[.int .i64 x, .int .i64 y]
structure Mov where
  ax : Int
  ay : Int
  sx : Int
  sy : Int
  spin : Int
abbrev Mov.v (m : Mov) : Value := .agg #[.int .i64 m.ax, .int .i64 m.ay, .int .i64 m.sx, .int .i64 m.sy, .int .i64 m.spin]
theorem gwithin_c (n lo hi : Int) (w : World) : Calls Try.prog 39 #[.int .i64 n, .int .i64 lo, .int .i64 hi] w fun e w' => e = .returned (.bool (wB n lo hi)) ∧ w = w' := by
  unfold wB
  cases h1 : decide (lo ≤ n) <;> cases h2 : decide (n ≤ hi)
  all_goals
    go_enter Try.func39, Try.ntmps39
    go_wp2
    go_ret
    exact ⟨rfl, rfl⟩
theorem gwithinFix_c (n lo hi : Int) (w : World) : Calls Try.prog 72 #[.int .i64 n, .int .i64 lo, .int .i64 hi] w fun e w' => e = .returned (.bool (wB n lo hi)) ∧ w = w' := by
  unfold wB
  cases h1 : decide (lo ≤ n) <;> cases h2 : decide (n ≤ hi)
  all_goals
    go_enter Try.func72, Try.ntmps72
    go_wp2
    go_ret
    exact ⟨rfl, rfl⟩
theorem cwithin_c (n lo hi : Int) (w : World) : Calls Try.prog 63 #[.int .i64 n, .int .i64 lo, .int .i64 hi] w fun e w' => e = .returned (.bool (wB n lo hi)) ∧ w = w' := by
  unfold wB
  cases h1 : decide (lo ≤ n) <;> cases h2 : decide (n ≤ hi)
  all_goals
    go_enter Try.func63, Try.ntmps63
    go_wp2
    go_ret
    exact ⟨rfl, rfl⟩
def sqB (x y most : Int) : Bool := wB x (-most) most && wB y (-most) most
theorem square_g (x y most : Int) (w : World) (h0 : 0 ≤ most) (h1 : most ≤ 9223372036854775807) :
    Calls Try.prog 69 #[spotV x y, .int .i64 most] w fun e w' => e = .returned (.bool (sqB x y most)) ∧ Below w.heap.size w w' := by
  unfold sqB
  cases e1 : wB x (-most) most <;> cases e2 : wB y (-most) most
  all_goals
    have H1 : Hid (wB x (-most) most = _) := e1
    have H2 : Hid (wB y (-most) most = _) := e2
    clear e1 e2
    go_enter Try.func69, Try.ntmps69
    go_wp2_with (go_at_call 72; refine (gwithinFix_c _ _ _ _).mono ?_; rintro e w' ⟨rfl, rfl⟩; first | rw [H1.out] | rw [H2.out])
    go_ret
    exact ⟨rfl, (Below.refl _ _).alloc (Nat.le_refl _) _⟩
def Mov.ok (m : Mov) : Bool := sqB m.ax m.ay 6553600000 && (sqB m.sx m.sy 65536000 && wB m.spin (-1000) 1000)
def errB (b : Bool) : Int := if b then 0 else 2
theorem one_new {w w1 : World} {c1 : Array Value} {t1 : TypeId} (hb : Below (w.alloc (.cells c1 t1)).heap.size (w.alloc (.cells c1 t1)) w1) :
    (∀ i, w1.cell? ⟨w.heap.size, i, none⟩ = c1[i]?) ∧ (∀ i, w1.frozen? ⟨w.heap.size, i, none⟩ = false) ∧ w.heap.size < w1.heap.size ∧ Below w.heap.size w w1 := by
  refine ⟨fun i => ?_, fun i => ?_, ?_, ((Below.refl _ _).alloc (Nat.le_refl _) _).trans (hb.mono (by simp))⟩
  · rw [hb.cell (p := ⟨w.heap.size, i, none⟩) (by simp)]; simp [go_sem]
  · rw [hb.frozen (p := ⟨w.heap.size, i, none⟩) (by simp)]; simp [go_sem]
  · have := hb.size; simp at this; omega
set_option maxHeartbeats 1000000 in
theorem gcheck_c (m : Mov) (w : World) :
    Calls Try.prog 64 #[m.v] w fun e w' => e = .returned (.int .i64 (errB m.ok)) ∧ Below w.heap.size w w' := by
  obtain ⟨ax, ay, sx, sy, spin⟩ := m
  unfold Mov.ok Mov.v
  simp only
  cases e1 : sqB ax ay 6553600000
  · have H1 : Hid (sqB ax ay 6553600000 = _) := e1
    clear e1
    go_enter Try.func64, Try.ntmps64
    go_wp2_with (go_at_call 69; refine (square_g _ _ _ _ (by omega) (by omega)).mono ?_; rintro e w1 ⟨rfl, hb1⟩; rw [H1.out]; obtain ⟨hc, hf, hz, hw⟩ := one_new hb1)
    go_ret
    exact ⟨rfl, hw⟩
  · have H1 : Hid (sqB ax ay 6553600000 = _) := e1
    clear e1
    cases e2 : sqB sx sy 65536000
    · have H2 : Hid (sqB sx sy 65536000 = _) := e2
      clear e2
      go_enter Try.func64, Try.ntmps64
      go_wp2_with (first
        | (go_at_call_of 69 (Value.int .i64 6553600000); refine (square_g ax ay _ _ (by omega) (by omega)).mono ?_; rintro e w1 ⟨rfl, hb1⟩; rw [H1.out]; obtain ⟨hc, hf, hz, hw⟩ := one_new hb1; have c2 := hc 2; have c3 := hc 3)
        | (go_at_call_of 69 (Value.int .i64 65536000); refine (square_g sx sy _ _ (by omega) (by omega)).mono ?_; rintro e w2 ⟨rfl, hb2⟩; rw [H2.out]))
      go_ret
      exact ⟨rfl, hw.trans (hb2.mono (by omega))⟩
    · have H2 : Hid (sqB sx sy 65536000 = _) := e2
      clear e2
      cases e3 : wB spin (-1000) 1000
      all_goals
        have H3 : Hid (wB spin (-1000) 1000 = _) := e3
        clear e3
        go_enter Try.func64, Try.ntmps64
        go_wp2_with (first
          | (go_at_call_of 69 (Value.int .i64 6553600000); refine (square_g ax ay _ _ (by omega) (by omega)).mono ?_; rintro e w1 ⟨rfl, hb1⟩; rw [H1.out]; obtain ⟨hc, hf, hz, hw⟩ := one_new hb1; have c2 := hc 2; have c3 := hc 3; have c4 := hc 4)
          | (go_at_call_of 69 (Value.int .i64 65536000); refine (square_g sx sy _ _ (by omega) (by omega)).mono ?_; rintro e w2 ⟨rfl, hb2⟩; rw [H2.out]; have d4 := (hb2.cell (p := ⟨w.heap.size, 4, none⟩) hz).trans c4)
          | (go_at_call 39; refine (gwithin_c _ _ _ _).mono ?_; rintro e w' ⟨rfl, rfl⟩; rw [H3.out]))
        go_ret
        exact ⟨rfl, hw.trans (hb2.mono (by omega))⟩
end Go.Proofs.Yteaadpgpihggeaa

namespace Go.Proofs.Yteaadpgpihggeaa
open Go.RowKit
structure Bod where
  team : Int
  n : Int
  m : Mov
  out : Bool
def Bod.cells (b : Bod) : Array Value := #[.int .i64 b.team, .int .i64 b.n, .int .i64 b.m.ax, .int .i64 b.m.ay, .int .i64 b.m.sx, .int .i64 b.m.sy, .int .i64 b.m.spin, .bool b.out]
def Bod.ok (b : Bod) : Bool := wB b.team 0 1 && (wB b.n 0 7 && b.m.ok)
def Bod.rests (b : Bod) : Bool := b.m.sx == 0 && b.m.sy == 0
set_option maxHeartbeats 1000000 in
theorem bvalid_c (b : Bod) (w : World) :
    Calls Try.prog 50 #[.agg b.cells] w fun e w' => e = .returned (.bool b.ok) ∧ Below w.heap.size w w' := by
  obtain ⟨team, n, m, out⟩ := b
  obtain ⟨ax, ay, sx, sy, spin⟩ := m
  unfold Bod.ok Bod.cells
  simp only
  cases e1 : wB team 0 1
  · have H1 : Hid (wB team 0 1 = _) := e1
    clear e1
    go_enter Try.func50, Try.ntmps50
    go_wp2_with (go_at_call 63; refine (cwithin_c _ _ _ _).mono ?_; rintro e w' ⟨rfl, rfl⟩; rw [H1.out])
    go_ret
    exact ⟨rfl, (Below.refl _ _).alloc (Nat.le_refl _) _⟩
  have H1 : Hid (wB team 0 1 = _) := e1
  clear e1
  cases e2 : wB n 0 7
  · have H2 : Hid (wB n 0 7 = _) := e2
    clear e2
    go_enter Try.func50, Try.ntmps50
    go_wp2_with (go_at_call 63; refine (cwithin_c _ _ _ _).mono ?_; rintro e w' ⟨rfl, rfl⟩; first | rw [H1.out] | rw [H2.out])
    go_ret
    exact ⟨rfl, (Below.refl _ _).alloc (Nat.le_refl _) _⟩
  have H2 : Hid (wB n 0 7 = _) := e2
  clear e2
  cases e3 : (Mov.mk ax ay sx sy spin).ok
  all_goals
    have H3 : Hid ((Mov.mk ax ay sx sy spin).ok = _) := e3
    clear e3
    go_enter Try.func50, Try.ntmps50
    go_wp2_with (first
      | (go_at_call 63; refine (cwithin_c _ _ _ _).mono ?_; rintro e w' ⟨rfl, rfl⟩; first | rw [H1.out] | rw [H2.out])
      | (go_at_call 64; refine (gcheck_c ⟨ax, ay, sx, sy, spin⟩ _).mono ?_; rintro e w1 ⟨rfl, hb1⟩; rw [H3.out]; simp only [errB]))
    go_ret
    exact ⟨rfl, ((Below.refl _ _).alloc (Nat.le_refl _) _).trans (hb1.mono (by simp))⟩
theorem brests_c (b : Bod) (w : World) :
    Calls Try.prog 51 #[.agg b.cells] w fun e w' => e = .returned (.bool b.rests) ∧ Below w.heap.size w w' := by
  obtain ⟨team, n, m, out⟩ := b
  obtain ⟨ax, ay, sx, sy, spin⟩ := m
  unfold Bod.rests Bod.cells
  simp only
  go_enter Try.func51, Try.ntmps51
  go_wp2_with fail
  all_goals
    go_ret
    exact ⟨by simp [*], (Below.refl _ _).alloc (Nat.le_refl _) _⟩
abbrev keyV (a b : Int) : Value := .agg #[.int .i64 a, .int .i64 b]
theorem equalIn_int (d : Nat) (a c : Int) (w : World) : (Op.equalIn (d + 1) 3 (.int .i64 a) (.int .i64 c)).run Try.prog w = .ok (a == c) w := by
  simp [Op.equalIn, run_underlying Try.underlying3]
theorem part_0 (x y : Value) (w : World) : (part 3 #[x, y] 0).run Try.prog w = .ok x w := by kernel_rfl
theorem part_1 (x y : Value) (w : World) : (part 3 #[x, y] 1).run Try.prog w = .ok y w := by kernel_rfl
theorem size_int (w : World) : (sizeOf 3).run Try.prog w = .ok 1 w := by kernel_rfl
theorem equalIn_key (d : Nat) (a b c e : Int) (w : World) : (Op.equalIn (d + 2) 103 (keyV a b) (keyV c e)).run Try.prog w = .ok (a == c && b == e) w := by
  have h1 := fun a c => equalIn_int d a c w
  rw [Op.equalIn]
  generalize Op.equalIn (d + 1) = f at *
  simp only [Sem.run_bind, run_underlying Try.underlying103, Result.andThen_ok, size_int, Std.Legacy.Range.forIn_eq_forIn_range', List.range', List.forIn_cons, List.forIn_nil]
  have hr : List.range' 0 2 = [0, 1] := rfl
  simp [hr, part_0, part_1, h1, Sem.run_bind]
  by_cases h2 : a = c
  · by_cases h3 : b = e
    · simp [h2, h3, part_0, part_1, h1, Sem.run_bind]
    · simp [h2, h3, part_0, part_1, h1, Sem.run_bind]
  · simp [h2, part_0, part_1, h1, Sem.run_bind]
theorem equal_key (a b c e : Int) (w : World) : (Op.equal 103 (keyV a b) (keyV c e)).run Try.prog w = .ok (a == c && b == e) w := by
  simp only [Op.equal, Op.maxDepth]
  exact equalIn_key 9998 a b c e w
theorem check_key (e : Bool) (a b : Int) (w : World) : (Instr.checkKey e 10000 103 (keyV a b)).run Try.prog w = .ok () w := by
  cases e <;> kernel_rfl
end Go.Proofs.Yteaadpgpihggeaa

namespace Go.Proofs.Yteaadpgpihggeaa
open Go.RowKit
def NamesMap (w : World) (B : Nat) (ks : List (Int × Int)) : Prop :=
  ∃ es clock, w.heap[B]? = some (.map es clock) ∧ es.toList.map (·.key) = ks.map (fun k => keyV k.1 k.2) ∧ ∀ e ∈ es.toList, e.val = .bool true
theorem findAsking_names (a b : Int) (w : World) : ∀ (es : List MapEntry) (ks : List (Int × Int)) (i : Nat), es.map (·.key) = ks.map (fun k => keyV k.1 k.2) → (∀ e ∈ es, e.val = .bool true) →
    ((a, b) ∉ ks → (Instr.findAsking 103 (keyV a b) es i).run Try.prog w = .ok none w) ∧
    ((a, b) ∈ ks → ∃ j, (Instr.findAsking 103 (keyV a b) es i).run Try.prog w = .ok (some (j, .bool true)) w)
  | [], [], i, _, _ => by simp [Instr.findAsking]
  | [], _ :: _, _, h, _ => by simp at h
  | _ :: _, [], _, h, _ => by simp at h
  | e :: es, (c, d) :: ks, i, h, hv => by
    simp only [List.map_cons, List.cons.injEq] at h
    obtain ⟨hk, hr⟩ := h
    obtain ⟨h1, h2⟩ := findAsking_names a b w es ks (i + 1) hr (fun x hx => hv x (List.mem_cons_of_mem _ hx))
    have hval := hv e (List.mem_cons_self ..)
    have heq := equal_key a b c d w
    rw [← hk] at heq
    constructor
    · intro hn
      simp only [List.mem_cons, not_or] at hn
      have hne : (a == c && b == d) = false := by
        have := hn.1
        simp only [Prod.mk.injEq, not_and] at this
        by_cases hac : a = c
        · simp [hac, this hac]
        · simp [hac]
      rw [hne] at heq
      simp [Instr.findAsking, Sem.run_bind, heq, h1 hn.2]
    · intro hm
      by_cases hc : a = c ∧ b = d
      · obtain ⟨rfl, rfl⟩ := hc
        have : (a == a && b == b) = true := by simp
        rw [this] at heq
        exact ⟨i, by simp [Instr.findAsking, Sem.run_bind, heq, hval]⟩
      · have hne : (a == c && b == d) = false := by
          by_cases hac : a = c
          · have : ¬ b = d := fun h => hc ⟨hac, h⟩
            simp [this]
          · simp [hac]
        rw [hne] at heq
        have hm' : (a, b) ∈ ks := by
          rcases List.mem_cons.1 hm with h | h
          · simp only [Prod.mk.injEq] at h; exact absurd h hc
          · exact h
        obtain ⟨j, hj⟩ := h2 hm'
        exact ⟨j, by simp [Instr.findAsking, Sem.run_bind, heq, hj]⟩
theorem findKey_names (a b : Int) (w : World) (es : List MapEntry) (ks : List (Int × Int)) (h : es.map (·.key) = ks.map (fun k => keyV k.1 k.2)) (hv : ∀ e ∈ es, e.val = .bool true) :
    ((a, b) ∉ ks → (Instr.findKey 103 (keyV a b) es).run Try.prog w = .ok none w) ∧
    ((a, b) ∈ ks → ∃ j, (Instr.findKey 103 (keyV a b) es).run Try.prog w = .ok (some (j, .bool true)) w) := by
  obtain ⟨h1, h2⟩ := findAsking_names a b w es ks 0 h hv
  unfold Instr.findKey
  simp only [Sem.run_bind, run_underlying Try.underlying103, Result.andThen_ok]
  cases es with
  | nil =>
    cases ks with
    | nil => simp [Instr.findNow]
    | cons _ _ => simp at h
  | cons e es =>
    have hn : ∀ d, Instr.findNow (.array 2 d) (keyV a b) (e :: es) 0 = none := by
      intro d
      simp [Instr.findNow, Instr.sameNow]
    simp only [hn]
    exact ⟨h1, h2⟩
theorem zero_bool (w : World) : (zeroValue 4).run Try.prog w = .ok (.bool false) w := by kernel_rfl
theorem names_lookup {w : World} {B : Nat} {ks : List (Int × Int)} (h : NamesMap w B ks) (a b : Int) :
    (Instr.lookup 100 (.map (some B)) (keyV a b) false).run Try.prog w = .ok (.bool (decide ((a, b) ∈ ks))) w := by
  obtain ⟨es, clock, hb, hk, hv⟩ := h
  obtain ⟨h1, h2⟩ := findKey_names a b w es.toList ks hk hv
  unfold Instr.lookup
  simp only [Sem.run_bind, run_underlying Try.underlying100, Result.andThen_ok, MapKept.run_getObj_map hb, Sem.run_pure, check_key]
  by_cases hm : (a, b) ∈ ks
  · obtain ⟨j, hj⟩ := h2 hm
    simp [hj, hm]
  · simp [h1 hm, hm, zero_bool]
theorem names_update {w : World} {B : Nat} {ks : List (Int × Int)} (h : NamesMap w B ks) (a b : Int) (hn : (a, b) ∉ ks) :
    ∃ w', (Instr.mapUpdate 100 (.map (some B)) (keyV a b) (.bool true)).run Try.prog w = .ok () w' ∧ NamesMap w' B (ks ++ [(a, b)]) ∧ w.grownBy w' (some B) := by
  obtain ⟨es, clock, hb, hk, hv⟩ := h
  obtain ⟨h1, -⟩ := findKey_names a b w es.toList ks hk hv
  refine ⟨ChangeMaps.setBlock w B (.map (es.push { key := keyV a b, val := .bool true, born := clock }) (clock + 1)), ?_, ⟨_, _, ChangeMaps.heap_setBlock_same hb _, ?_, ?_⟩, ⟨rfl, rfl, rfl, by simp [ChangeMaps.setBlock], fun i _ hi => ChangeMaps.heap_setBlock_other hb _ (fun e => hi (by rw [e]))⟩⟩
  · unfold Instr.mapUpdate
    simp [Sem.run_bind, run_underlying Try.underlying100, MapKept.run_getObj_map hb, check_key, h1 hn, MapKept.run_setObj_map _ hb, Result.andThen, ChangeMaps.setBlock]
  · simp [hk]
  · intro e he
    simp only [Array.toList_push, List.mem_append, List.mem_singleton] at he
    rcases he with he | rfl
    · exact hv e he
    · rfl
theorem wpList_names {P : Program} (hP : P = Try.prog) (w : World) {ops : Array Oper} {rest : List Oper} {o : Oper} {a : Act} {Q : Exit → Act → World → Prop}
    (hg : o.guard = none) (m x v : Operand) (hop : o.op = Op.mapUpdate 100 m x v) (B : Nat) (ks : List (Int × Int)) (c d : Int)
    (hm : a.eval m = .map (some B)) (hx : a.eval x = keyV c d) (hv : a.eval v = .bool true) (hown : NamesMap w B ks) (hn : (c, d) ∉ ks)
    (hK : ∀ w', NamesMap w' B (ks ++ [(c, d)]) → w.grownBy w' (some B) → wpList P ops Q rest (a.put o.dst undef) w') :
    wpList P ops Q (o :: rest) a w := by
  subst hP
  refine wpList_plain hg fun K' hK' => ?_
  obtain ⟨w', hrun, r1, r2⟩ := names_update hown c d hn
  unfold Oper.wp
  simp [execOp, hop, hm, hx, hv, hrun, Result.andThen]
  exact hK' _ _ (hK w' r1 r2)
theorem NamesMap.kept {w w' : World} {B : Nat} {ks : List (Int × Int)} (h : NamesMap w B ks) (hb : w'.heap[B]? = w.heap[B]?) : NamesMap w' B ks := by
  obtain ⟨es, clock, h1, h2⟩ := h
  exact ⟨es, clock, hb.trans h1, h2⟩
theorem NamesMap.lt {w : World} {B : Nat} {ks : List (Int × Int)} (h : NamesMap w B ks) : B < w.heap.size := by
  obtain ⟨es, clock, h1, _⟩ := h
  exact (Array.getElem?_eq_some_iff.1 h1).1
theorem NamesMap.below {w w' : World} {B C : Nat} {ks : List (Int × Int)} (h : NamesMap w B ks) (hb : Below C w w') (hc : B < C) : NamesMap w' B ks := h.kept (hb.block B hc)
theorem names_made (w : World) : NamesMap (w.alloc (.map #[] 0)) w.heap.size [] :=
  ⟨#[], 0, by show (w.heap.push _)[w.heap.size]? = _; simp, rfl, by simp⟩
def Bods (w : World) (v : Value) (bs : List Bod) : Prop :=
  (∃ p cap, v = .slice p 0 cap ∧ bs = []) ∨
  (∃ b off cap, v = .slice (some ⟨b, off, none⟩) bs.length cap ∧ 0 < bs.length ∧ bs.length ≤ 9223372036854775807 ∧ ∀ (i : Nat) (x : Bod), bs[i]? = some x → ∀ j, j < 8 → w.cell? ⟨b, off + i * 8 + j, none⟩ = x.cells[j]?)
theorem Bods.below {w w' : World} {v : Value} {bs : List Bod} {B : Nat} (h : Bods w v bs) (hb : Below B w w') (hB : w.heap.size ≤ B) : Bods w' v bs := by
  rcases h with h | ⟨b, off, cap, rfl, h0, h1, h2⟩
  · exact .inl h
  · refine .inr ⟨b, off, cap, rfl, h0, h1, fun i x hx j hj => ?_⟩
    have hc := h2 i x hx j hj
    have hlt : b < w.heap.size := by
      have : ∃ y, x.cells[j]? = some y := ⟨x.cells[j]'(by simpa [Bod.cells] using hj), by simp⟩
      obtain ⟨y, hy⟩ := this
      exact lt_of_cell (hc.trans hy)
    rw [hb.cell (p := ⟨b, off + i * 8 + j, none⟩) (by show b < B; omega)]
    exact hc
def Bod.name (b : Bod) : Int × Int := (b.team, b.n)
def Bod.bad (before : List Bod) (b : Bod) : Bool := !b.ok || (decide (b.name ∈ before.map Bod.name) || (b.out && (!b.rests || b.m.spin != 0)))
def bodsOk (before : List Bod) : List Bod → Bool
  | [] => true
  | b :: r => !b.bad before && bodsOk (before ++ [b]) r
def sceneB (bs : List Bod) : Bool := decide (bs.length ≤ 16) && bodsOk [] bs
end Go.Proofs.Yteaadpgpihggeaa

namespace Go.Proofs.Yteaadpgpihggeaa
open Go.RowKit
theorem bad_1 {l : List Bod} {x : Bod} (h : x.ok = false) : x.bad l = true := by simp [Bod.bad, h]
theorem bad_2 {l : List Bod} {x : Bod} (h : decide (x.name ∈ l.map Bod.name) = true) : x.bad l = true := by unfold Bod.bad; rw [h]; simp
theorem bad_3 {l : List Bod} {x : Bod} (h1 : x.out = true) (h : x.rests = false) : x.bad l = true := by simp [Bod.bad, h1, h]
theorem bad_4 {l : List Bod} {x : Bod} (h1 : x.out = true) (h : (x.m.spin != 0) = true) : x.bad l = true := by unfold Bod.bad; rw [h1, h]; simp
theorem good_1 {l : List Bod} {x : Bod} (h1 : x.ok = true) (h2 : decide (x.name ∈ l.map Bod.name) = false) (h3 : x.out = false) : x.bad l = false := by unfold Bod.bad; rw [h1, h2, h3]; rfl
theorem good_2 {l : List Bod} {x : Bod} (h1 : x.ok = true) (h2 : decide (x.name ∈ l.map Bod.name) = false) (h3 : x.rests = true) (h4 : x.m.spin = 0) : x.bad l = false := by unfold Bod.bad; rw [h1, h2, h3, h4]; simp
set_option maxHeartbeats 2000000 in
theorem ccheck_c (bs : List Bod) (v : Value) (w : World) (hv : Bods w v bs) :
    Calls Try.prog 37 #[v] w fun e w' => e = .returned (.int .i64 (errB (sceneB bs))) ∧ Below w.heap.size w w' := by
  have hmm := @run_makeMap Try.prog
  by_cases hl : bs.length ≤ 16
  case neg =>
    have hS : sceneB bs = false := by simp [sceneB, hl]
    rw [hS]
    rcases hv with ⟨_, _, _, rfl⟩ | ⟨b, off, cap, rfl, h0, h1, h2⟩
    · simp at hl
    · have hd : decide ((16 : Int) < (bs.length : Int)) = true := by simp only [decide_eq_true_eq]; omega
      clear h2 hS
      go_enter Try.func37, Try.ntmps37
      go_wp2_with fail
      go_ret
      exact ⟨rfl, Below.refl _ _⟩
  have hS : sceneB bs = bodsOk [] bs := by simp [sceneB, hl]
  have HS := Hid.mk' hS
  clear hS
  have hd : decide ((16 : Int) < (bs.length : Int)) = false := by simp only [decide_eq_false_iff_not]; omega
  rcases hv with ⟨q, cap, rfl, rfl⟩ | ⟨b, off, cap, rfl, h0, h1, h2⟩
  · go_enter Try.func37, Try.ntmps37
    go_wp2_with fail
    go_loop [5, 6, 13] (fun _ _ i => i = .int .i64 0) (fun _ _ _ => 0)
    case atStart => rfl
    case round =>
      subst hrel
      go_wp2_with fail
      go_ret
      exact ⟨by rw [HS.out]; rfl, (Below.refl _ _).alloc (Nat.le_refl _) _⟩
  have hblt : b < w.heap.size := by
    obtain ⟨x, hx⟩ : ∃ x, bs[0]? = some x := ⟨_, List.getElem?_eq_getElem h0⟩
    exact lt_of_cell (h2 0 x hx 0 (by omega))
  have H2 := Hid.mk' h2
  clear h2
  generalize hn : bs.length = n at *
  have HN := Hid.mk' hn
  clear hn
  go_enter Try.func37, Try.ntmps37
  go_wp2_with fail
  go_loopw [5, 6, 13] (fun _ _ i wr => ∃ k : Nat, k ≤ n ∧ i = .int .i64 k ∧ NamesMap wr w.heap.size ((bs.take k).map Bod.name) ∧ Below w.heap.size w wr ∧ Hid (bodsOk [] bs = bodsOk (bs.take k) (bs.drop k))) (fun _ _ i _ => n - (intOf i).toNat)
  case atStart => exact ⟨0, Nat.zero_le _, rfl, names_made w, (Below.refl _ _).alloc (Nat.le_refl _) _, rfl⟩
  case round =>
    obtain ⟨k, hk, rfl, hmap, hbel, hok⟩ := hrel
    by_cases hlt : k < n
    case neg =>
      have hkn : k = n := by omega
      have hfin : bodsOk [] bs = true := by rw [hok.out, hkn, ← HN.out, List.drop_length]; rfl
      have HF := Hid.mk' hfin
      clear hfin hkn hok
      go_wp2_with fail
      go_ret
      exact ⟨by rw [HS.out, HF.out]; rfl, hbel⟩
    obtain ⟨x, hx⟩ : ∃ x, bs[k]? = some x := ⟨_, List.getElem?_eq_getElem (by rw [HN.out]; exact hlt)⟩
    have hdrop : bs.drop k = x :: bs.drop (k + 1) := by
      rw [List.drop_eq_getElem_cons (by rw [HN.out]; exact hlt)]
      rw [List.getElem?_eq_getElem (by rw [HN.out]; exact hlt), Option.some.injEq] at hx
      rw [hx]
    have htake : bs.take (k + 1) = bs.take k ++ [x] := by
      rw [List.take_add_one, hx]; rfl
    have hstep : bodsOk [] bs = (!x.bad (bs.take k) && bodsOk (bs.take (k + 1)) (bs.drop (k + 1))) := by
      rw [hok.out, hdrop, htake]; rfl
    have HST := Hid.mk' hstep
    have HTK := Hid.mk' htake
    have hc := fun j (hj : j < 8) => (hbel.cell (p := ⟨b, off + k * 8 + j, none⟩) hblt).trans (H2.out k x hx j hj)
    clear hstep htake hdrop hok hx
    obtain ⟨team, num, m, out⟩ := x
    obtain ⟨ax, ay, sx, sy, spin⟩ := m
    have c0 := hc 0 (by omega)
    have c1 := hc 1 (by omega)
    have c2 := hc 2 (by omega)
    have c3 := hc 3 (by omega)
    have c4 := hc 4 (by omega)
    have c5 := hc 5 (by omega)
    have c6 := hc 6 (by omega)
    have c7 := hc 7 (by omega)
    simp only [Bod.cells, List.getElem?_toArray, List.getElem?_cons_zero, List.getElem?_cons_succ, Nat.add_zero] at c0 c1 c2 c3 c4 c5 c6 c7
    clear hc
    cases e1 : Bod.ok ⟨team, num, ⟨ax, ay, sx, sy, spin⟩, out⟩
    case false =>
      have HOK := Hid.mk' e1
      have HMEM : Hid (decide ((team, num) ∈ (bs.take k).map Bod.name) = decide ((team, num) ∈ (bs.take k).map Bod.name)) := rfl
      have HBF : Hid (bodsOk [] bs = false) := by show _ = _; rw [HST.out, bad_1 HOK.out]; rfl
      clear e1
      go_wp2_with (go_at_call 50; refine (bvalid_c ⟨team, num, ⟨ax, ay, sx, sy, spin⟩, out⟩ _).mono ?_; rintro e w1 ⟨rfl, hb1⟩; rw [HOK.out]; obtain ⟨hc1, hc2, hf1, hf2, hz⟩ := two_new hb1; have d0 := hc2 0; have d1 := hc2 1; have d2 := hc2 2; have d3 := hc2 3; have d4 := hc2 4; have d5 := hc2 5; have d6 := hc2 6; have d7 := hc2 7; have hbw : Below wr.heap.size wr w1 := (((Below.refl _ _).alloc (Nat.le_refl _) _).alloc (by simp) _).trans (hb1.mono (by simp <;> omega)); have hm1 := hmap.below hbw hmap.lt; have hlk := names_lookup hm1 team num; rw [HMEM.out] at hlk; clear hc1 hc2 hf1 hf2)
      go_ret
      exact ⟨by rw [HS.out, HBF.out]; rfl, hbel.trans (hbw.mono hbel.size)⟩
    have HOK := Hid.mk' e1
    clear e1
    cases e2 : decide ((team, num) ∈ (bs.take k).map Bod.name)
    case true =>
      have HMEM := Hid.mk' e2
      have HBF : Hid (bodsOk [] bs = false) := by show _ = _; rw [HST.out, bad_2 HMEM.out]; rfl
      clear e2
      go_wp2_with (go_at_call 50; refine (bvalid_c ⟨team, num, ⟨ax, ay, sx, sy, spin⟩, out⟩ _).mono ?_; rintro e w1 ⟨rfl, hb1⟩; rw [HOK.out]; obtain ⟨hc1, hc2, hf1, hf2, hz⟩ := two_new hb1; have d0 := hc2 0; have d1 := hc2 1; have d2 := hc2 2; have d3 := hc2 3; have d4 := hc2 4; have d5 := hc2 5; have d6 := hc2 6; have d7 := hc2 7; have hbw : Below wr.heap.size wr w1 := (((Below.refl _ _).alloc (Nat.le_refl _) _).alloc (by simp) _).trans (hb1.mono (by simp <;> omega)); have hm1 := hmap.below hbw hmap.lt; have hlk := names_lookup hm1 team num; rw [HMEM.out] at hlk; clear hc1 hc2 hf1 hf2)
      go_ret
      exact ⟨by rw [HS.out, HBF.out]; rfl, hbel.trans (hbw.mono hbel.size)⟩
    have HMEM := Hid.mk' e2
    clear e2
    cases out
    case false =>
      have HBG : Hid (bodsOk [] bs = bodsOk (bs.take (k + 1)) (bs.drop (k + 1))) := by show _ = _; rw [HST.out, good_1 HOK.out HMEM.out rfl]; rfl
      have HNM : Hid ((team, num) ∉ (bs.take k).map Bod.name) := of_decide_eq_false HMEM.out
      have HKS : Hid ((bs.take (k + 1)).map Bod.name = (bs.take k).map Bod.name ++ [(team, num)]) := by
        show _ = _
        rw [HTK.out, List.map_append]; rfl
      go_wp2_with (first
        | (go_at_call 50; refine (bvalid_c ⟨team, num, ⟨ax, ay, sx, sy, spin⟩, false⟩ _).mono ?_; rintro e w1 ⟨rfl, hb1⟩; rw [HOK.out]; obtain ⟨hc1, hc2, hf1, hf2, hz⟩ := two_new hb1; have d0 := hc2 0; have d1 := hc2 1; have d2 := hc2 2; have d3 := hc2 3; have d4 := hc2 4; have d5 := hc2 5; have d6 := hc2 6; have d7 := hc2 7; have hbw : Below wr.heap.size wr w1 := (((Below.refl _ _).alloc (Nat.le_refl _) _).alloc (by simp) _).trans (hb1.mono (by simp <;> omega)); have hm1 := hmap.below hbw hmap.lt; have hlk := names_lookup hm1 team num; rw [HMEM.out] at hlk; clear hc1 hc2 hf1 hf2)
        | (at_mapUpdate; refine wpList_names rfl _ rfl _ _ _ rfl w.heap.size ((bs.take k).map Bod.name) team num rfl rfl rfl hm1 HNM.out ?_; intro w3 hm3 hg3))
      go_roundw
      case rel => exact ⟨k + 1, by omega, by go_num, by rw [HKS.out]; exact hm3, (hbel.trans (hbw.mono hbel.size)).grown hg3 (by have := hbw.size; have := hbel.size; omega) (fun q hq => by cases hq; exact Nat.le_refl _), HBG.out⟩
      case measure => simp [intOf]; omega
    cases e3 : Bod.rests ⟨team, num, ⟨ax, ay, sx, sy, spin⟩, true⟩
    case false =>
      have HR := Hid.mk' e3
      have HBF : Hid (bodsOk [] bs = false) := by show _ = _; rw [HST.out, bad_3 rfl HR.out]; rfl
      clear e3
      go_wp2_with (first
        | (go_at_call 50; refine (bvalid_c ⟨team, num, ⟨ax, ay, sx, sy, spin⟩, true⟩ _).mono ?_; rintro e w1 ⟨rfl, hb1⟩; rw [HOK.out]; obtain ⟨hc1, hc2, hf1, hf2, hz⟩ := two_new hb1; have d0 := hc2 0; have d1 := hc2 1; have d2 := hc2 2; have d3 := hc2 3; have d4 := hc2 4; have d5 := hc2 5; have d6 := hc2 6; have d7 := hc2 7; have hbw : Below wr.heap.size wr w1 := (((Below.refl _ _).alloc (Nat.le_refl _) _).alloc (by simp) _).trans (hb1.mono (by simp <;> omega)); have hm1 := hmap.below hbw hmap.lt; have hlk := names_lookup hm1 team num; rw [HMEM.out] at hlk; clear hc1 hc2 hf1 hf2)
        | (go_at_call 51; refine (brests_c ⟨team, num, ⟨ax, ay, sx, sy, spin⟩, true⟩ _).mono ?_; rintro e w2 ⟨rfl, hb2⟩; rw [HR.out]; have f0 := (hb2.cell (p := ⟨wr.heap.size + 1, 0, none⟩) hz).trans d0; have f1 := (hb2.cell (p := ⟨wr.heap.size + 1, 1, none⟩) hz).trans d1; have f6 := (hb2.cell (p := ⟨wr.heap.size + 1, 6, none⟩) hz).trans d6; have hm2 := hm1.below hb2 hm1.lt; clear d0 d1 d2 d3 d4 d5 d6 d7 hlk))
      go_ret
      exact ⟨by rw [HS.out, HBF.out]; rfl, (hbel.trans (hbw.mono hbel.size)).trans (hb2.mono (by have := hbw.size; have := hbel.size; omega))⟩
    have HR := Hid.mk' e3
    clear e3
    by_cases hs : spin = 0
    case neg =>
      have hsb : (spin != 0) = true := by simpa using hs
      have HSB := Hid.mk' hsb
      have HBF : Hid (bodsOk [] bs = false) := by show _ = _; rw [HST.out, bad_4 rfl HSB.out]; rfl
      clear hs
      go_wp2_with (first
        | (go_at_call 50; refine (bvalid_c ⟨team, num, ⟨ax, ay, sx, sy, spin⟩, true⟩ _).mono ?_; rintro e w1 ⟨rfl, hb1⟩; rw [HOK.out]; obtain ⟨hc1, hc2, hf1, hf2, hz⟩ := two_new hb1; have d0 := hc2 0; have d1 := hc2 1; have d2 := hc2 2; have d3 := hc2 3; have d4 := hc2 4; have d5 := hc2 5; have d6 := hc2 6; have d7 := hc2 7; have hbw : Below wr.heap.size wr w1 := (((Below.refl _ _).alloc (Nat.le_refl _) _).alloc (by simp) _).trans (hb1.mono (by simp <;> omega)); have hm1 := hmap.below hbw hmap.lt; have hlk := names_lookup hm1 team num; rw [HMEM.out] at hlk; clear hc1 hc2 hf1 hf2)
        | (go_at_call 51; refine (brests_c ⟨team, num, ⟨ax, ay, sx, sy, spin⟩, true⟩ _).mono ?_; rintro e w2 ⟨rfl, hb2⟩; rw [HR.out]; have f0 := (hb2.cell (p := ⟨wr.heap.size + 1, 0, none⟩) hz).trans d0; have f1 := (hb2.cell (p := ⟨wr.heap.size + 1, 1, none⟩) hz).trans d1; have f6 := (hb2.cell (p := ⟨wr.heap.size + 1, 6, none⟩) hz).trans d6; have hm2 := hm1.below hb2 hm1.lt; clear d0 d1 d2 d3 d4 d5 d6 d7 hlk))
      go_ret
      exact ⟨by rw [HS.out, HBF.out]; rfl, (hbel.trans (hbw.mono hbel.size)).trans (hb2.mono (by have := hbw.size; have := hbel.size; omega))⟩
    subst hs
    have HBG : Hid (bodsOk [] bs = bodsOk (bs.take (k + 1)) (bs.drop (k + 1))) := by show _ = _; rw [HST.out, good_2 HOK.out HMEM.out HR.out rfl]; rfl
    have HNM : Hid ((team, num) ∉ (bs.take k).map Bod.name) := of_decide_eq_false HMEM.out
    have HKS : Hid ((bs.take (k + 1)).map Bod.name = (bs.take k).map Bod.name ++ [(team, num)]) := by
      show _ = _
      rw [HTK.out, List.map_append]; rfl
    go_wp2_with (first
      | (go_at_call 50; refine (bvalid_c ⟨team, num, ⟨ax, ay, sx, sy, 0⟩, true⟩ _).mono ?_; rintro e w1 ⟨rfl, hb1⟩; rw [HOK.out]; obtain ⟨hc1, hc2, hf1, hf2, hz⟩ := two_new hb1; have d0 := hc2 0; have d1 := hc2 1; have d2 := hc2 2; have d3 := hc2 3; have d4 := hc2 4; have d5 := hc2 5; have d6 := hc2 6; have d7 := hc2 7; have hbw : Below wr.heap.size wr w1 := (((Below.refl _ _).alloc (Nat.le_refl _) _).alloc (by simp) _).trans (hb1.mono (by simp <;> omega)); have hm1 := hmap.below hbw hmap.lt; have hlk := names_lookup hm1 team num; rw [HMEM.out] at hlk; clear hc1 hc2 hf1 hf2)
      | (go_at_call 51; refine (brests_c ⟨team, num, ⟨ax, ay, sx, sy, 0⟩, true⟩ _).mono ?_; rintro e w2 ⟨rfl, hb2⟩; rw [HR.out]; have f0 := (hb2.cell (p := ⟨wr.heap.size + 1, 0, none⟩) hz).trans d0; have f1 := (hb2.cell (p := ⟨wr.heap.size + 1, 1, none⟩) hz).trans d1; have f6 := (hb2.cell (p := ⟨wr.heap.size + 1, 6, none⟩) hz).trans d6; have hm2 := hm1.below hb2 hm1.lt; clear d0 d1 d2 d3 d4 d5 d6 d7 hlk)
      | (at_mapUpdate; refine wpList_names rfl _ rfl _ _ _ rfl w.heap.size ((bs.take k).map Bod.name) team num rfl rfl rfl hm2 HNM.out ?_; intro w3 hm3 hg3))
    go_roundw
    case rel => exact ⟨k + 1, by omega, by go_num, by rw [HKS.out]; exact hm3, ((hbel.trans (hbw.mono hbel.size)).trans (hb2.mono (by have := hbw.size; have := hbel.size; omega))).grown hg3 (by have := hb2.size; have := hbw.size; have := hbel.size; omega) (fun q hq => by cases hq; exact Nat.le_refl _), HBG.out⟩
    case measure => simp [intOf]; omega
end Go.Proofs.Yteaadpgpihggeaa

namespace Go.Proofs.Yteaadpgpihggeaa
open Go.RowKit
structure Brm where
  lo : Int
  hi : Int
  st : Int
abbrev Brm.v (b : Brm) : Value := .agg #[.int .i64 b.lo, .int .i64 b.hi, .int .i64 b.st]
def brm0 : Brm := ⟨0, 0, 0⟩
def bat (l : List Brm) (i : Nat) : Brm := l.getD i brm0
def Brms (w : World) (v : Value) (l : List Brm) : Prop :=
  (∃ p cap, v = .slice p 0 cap ∧ l = []) ∨
  (∃ b off cap, v = .slice (some ⟨b, off, none⟩) l.length cap ∧ 0 < l.length ∧ l.length ≤ 9223372036854775807 ∧ ∀ i, i < l.length → w.cell? ⟨b, off + i * 3, none⟩ = some (.int .i64 (bat l i).lo) ∧ w.cell? ⟨b, off + i * 3 + 1, none⟩ = some (.int .i64 (bat l i).hi) ∧ w.cell? ⟨b, off + i * 3 + 2, none⟩ = some (.int .i64 (bat l i).st))
theorem Brms.below {w w' : World} {v : Value} {l : List Brm} {B : Nat} (h : Brms w v l) (hb : Below B w w') (hB : w.heap.size ≤ B) : Brms w' v l := by
  rcases h with h | ⟨b, off, cap, rfl, h0, h1, h2⟩
  · exact .inl h
  · refine .inr ⟨b, off, cap, rfl, h0, h1, fun i hi => ?_⟩
    obtain ⟨a, c, d⟩ := h2 i hi
    have hlt := lt_of_cell a
    exact ⟨(hb.cell (p := ⟨b, _, none⟩) (by show b < B; omega)).trans a, (hb.cell (p := ⟨b, _, none⟩) (by show b < B; omega)).trans c, (hb.cell (p := ⟨b, _, none⟩) (by show b < B; omega)).trans d⟩
theorem Brms.len_le {w : World} {v : Value} {l : List Brm} (h : Brms w v l) : l.length ≤ 9223372036854775807 := by
  rcases h with ⟨_, _, _, rfl⟩ | ⟨_, _, _, _, _, h1, _⟩
  · simp
  · exact h1
theorem Brms.shape {w : World} {v : Value} {l : List Brm} (h : Brms w v l) : ∃ p cap, v = .slice p l.length cap := by
  rcases h with ⟨p, cap, rfl, rfl⟩ | ⟨b, off, cap, rfl, _⟩
  · exact ⟨p, cap, rfl⟩
  · exact ⟨_, _, rfl⟩
theorem bat_mem {l : List Brm} {i : Nat} (h : i < l.length) : bat l i ∈ l := by
  rw [bat, List.getD_eq_getElem?_getD, List.getElem?_eq_getElem h]; simp
def Brm.bad (b : Brm) : Bool := !wB b.lo 0 b.hi || (decide (6000 < b.hi) || !wB b.st 0 1000)
def broomsB (l : List Brm) : Bool := decide (l.length ≤ 64) && !(l.any Brm.bad)
theorem brooms1_c (b : Brm) (w : World) : Calls Try.prog 38 #[b.v] w fun e w' => e = .returned (.bool b.bad) ∧ Below w.heap.size w w' := by
  obtain ⟨lo, hi, st⟩ := b
  unfold Brm.bad Brm.v
  simp only
  cases e1 : wB lo 0 hi <;> cases e2 : decide (6000 < hi) <;> cases e3 : wB st 0 1000
  all_goals
    have H1 : Hid (wB lo 0 hi = _) := e1
    have H3 : Hid (wB st 0 1000 = _) := e3
    clear e1 e3
    go_enter Try.func38, Try.ntmps38
    go_wp2_with (go_at_call 39; refine (gwithin_c _ _ _ _).mono ?_; rintro e w' ⟨rfl, rfl⟩; first | rw [H1.out] | rw [H3.out])
    go_ret
    exact ⟨rfl, (Below.refl _ _).alloc (Nat.le_refl _) _⟩
set_option maxHeartbeats 1000000 in
theorem indexBrm_c (l : List Brm) (v : Value) (w : World) (hv : Brms w v l) :
    Calls Try.prog 52 #[v, .func (.func 38) #[] #[]] w fun e w' => (∃ k : Int, e = .returned (.int .i64 k) ∧ decide (0 ≤ k) = l.any Brm.bad) ∧ Below w.heap.size w w' := by
  rcases hv with ⟨q, cap, rfl, rfl⟩ | ⟨b, off, cap, rfl, h0, h1, h2⟩
  · go_enter Try.func52, Try.ntmps52
    go_wp2_with fail
    go_loop [5, 8] (fun _ i => i = .int .i64 0) (fun _ _ => 0)
    case atStart => rfl
    case round =>
      subst hrel
      go_wp2_with fail
      go_ret
      exact ⟨⟨-1, rfl, by simp⟩, Below.refl _ _⟩
  · have hblt := lt_of_cell (h2 0 h0).1
    have H2 := Hid.mk' h2
    clear h2
    generalize hn : l.length = n at *
    have HN := Hid.mk' hn
    clear hn
    go_enter Try.func52, Try.ntmps52
    go_wp2_with fail
    go_loopw [5, 8] (fun _ i wr => ∃ k : Nat, k ≤ n ∧ i = .int .i64 k ∧ Below w.heap.size w wr ∧ Hid (∀ j, j < k → (bat l j).bad = false)) (fun _ i _ => n - (intOf i).toNat)
    case atStart => exact ⟨0, Nat.zero_le _, rfl, Below.refl _ _, fun j hj => by omega⟩
    case round =>
      obtain ⟨k, hk, rfl, hbel, hno⟩ := hrel
      by_cases hlt : k < n
      · obtain ⟨a0, a1, a2⟩ := H2.out k hlt
        have c0 := (hbel.cell (p := ⟨b, off + k * 3, none⟩) hblt).trans a0
        have c1 := (hbel.cell (p := ⟨b, off + k * 3 + 1, none⟩) hblt).trans a1
        have c2 := (hbel.cell (p := ⟨b, off + k * 3 + 2, none⟩) hblt).trans a2
        clear a0 a1 a2
        have hmem := bat_mem (l := l) (i := k) (by rw [HN.out]; exact hlt)
        have HM := Hid.mk' hmem
        clear hmem
        generalize hx : bat l k = x at *
        have HX := Hid.mk' hx
        clear hx
        obtain ⟨lo, hi, st⟩ := x
        simp only at c0 c1 c2
        cases hb : (Brm.mk lo hi st).bad
        · have HB := Hid.mk' hb
          clear hb
          go_wp2_with (go_at_call 38; refine (brooms1_c ⟨lo, hi, st⟩ _).mono ?_; rintro e w1 ⟨rfl, hb1⟩; rw [HB.out])
          go_roundw
          case rel => exact ⟨k + 1, by omega, by go_num, hbel.trans (hb1.mono hbel.size), upto_succ hno.out (by rw [HX.out]; exact HB.out)⟩
          case measure => simp [intOf]; omega
        · have HB := Hid.mk' hb
          clear hb
          go_wp2_with (go_at_call 38; refine (brooms1_c ⟨lo, hi, st⟩ _).mono ?_; rintro e w1 ⟨rfl, hb1⟩; rw [HB.out])
          go_ret
          refine ⟨⟨k, rfl, ?_⟩, hbel.trans (hb1.mono hbel.size)⟩
          rw [show decide ((0 : Int) ≤ (k : Int)) = true by simp]
          exact (List.any_eq_true.2 ⟨_, HM.out, HB.out⟩).symm
      · go_wp2_with fail
        go_ret
        refine ⟨⟨-1, rfl, ?_⟩, hbel⟩
        rw [show decide ((0 : Int) ≤ -1) = false from rfl]
        refine (List.any_eq_false.2 fun x hx => ?_).symm
        obtain ⟨j, hj, rfl⟩ := List.mem_iff_getElem.1 hx
        have := hno.out j (by have := HN.out; omega)
        rw [bat, List.getD_eq_getElem?_getD, List.getElem?_eq_getElem hj] at this
        simpa using this
theorem containsBrm_c (l : List Brm) (v : Value) (w : World) (hv : Brms w v l) :
    Calls Try.prog 40 #[v, .func (.func 38) #[] #[]] w fun e w' => e = .returned (.bool (l.any Brm.bad)) ∧ Below w.heap.size w w' := by
  have HV := Hid.mk' hv
  clear hv
  go_enter Try.func40, Try.ntmps40
  go_wp2_with (go_at_call 52; refine (indexBrm_c l v _ HV.out).mono ?_; rintro e w1 ⟨⟨k, rfl, hk⟩, hb⟩; have HK := Hid.mk' hk; clear hk)
  go_ret
  exact ⟨by rw [← HK.out]; rfl, hb⟩
theorem checkBrooms_c (l : List Brm) (v : Value) (w : World) (hv : Brms w v l) :
    Calls Try.prog 32 #[v] w fun e w' => e = .returned (.int .i64 (errB (broomsB l))) ∧ Below w.heap.size w w' := by
  unfold broomsB
  have HV := Hid.mk' hv
  obtain ⟨p, cap, rfl⟩ := hv.shape
  have hl := hv.len_le
  clear hv
  by_cases h : l.length ≤ 64
  case neg =>
    have hd : decide ((64 : Int) < (l.length : Int)) = true := by simp only [decide_eq_true_eq]; omega
    have hf : decide (l.length ≤ 64) = false := by simpa using h
    have HF := Hid.mk' hf
    clear hf h
    go_enter Try.func32, Try.ntmps32
    go_wp2_with fail
    go_ret
    exact ⟨by rw [HF.out]; rfl, Below.refl _ _⟩
  have hd : decide ((64 : Int) < (l.length : Int)) = false := by simp only [decide_eq_false_iff_not]; omega
  have hf : decide (l.length ≤ 64) = true := by simpa using h
  have HF := Hid.mk' hf
  clear hf h
  cases h2 : l.any Brm.bad
  all_goals
    have H2 : Hid (l.any Brm.bad = _) := h2
    clear h2
    go_enter Try.func32, Try.ntmps32
    go_wp2_with (go_at_call 40; refine (containsBrm_c l _ _ HV.out).mono ?_; rintro e w1 ⟨rfl, hb⟩; rw [H2.out])
    go_ret
    exact ⟨by rw [HF.out]; rfl, hb⟩
end Go.Proofs.Yteaadpgpihggeaa

namespace Go.Proofs.Yteaadpgpihggeaa
open Go.RowKit
structure Cal where
  team : Int
  n : Int
  m : Mov
  l : List Brm
  stx : Int
  sty : Int
def Cal.cells (c : Cal) (bv : Value) : Array Value := #[.int .i64 c.team, .int .i64 c.n, .int .i64 c.m.ax, .int .i64 c.m.ay, .int .i64 c.m.sx, .int .i64 c.m.sy, .int .i64 c.m.spin, bv, .int .i64 c.stx, .int .i64 c.sty]
def Cal.body (c : Cal) : Bod := ⟨c.team, c.n, c.m, false⟩
theorem sbody_c (c : Cal) (bv : Value) (w : World) :
    Calls Try.prog 31 #[.agg (c.cells bv)] w fun e w' => e = .returned (.agg c.body.cells) ∧ Below w.heap.size w w' := by
  obtain ⟨team, n, m, l, stx, sty⟩ := c
  obtain ⟨ax, ay, sx, sy, spin⟩ := m
  unfold Cal.cells Cal.body Bod.cells
  simp only
  go_enter Try.func31, Try.ntmps31
  go_wp2_with fail
  exact bodyPost_ret (v := .agg #[.int .i64 team, .int .i64 n, .int .i64 ax, .int .i64 ay, .int .i64 sx, .int .i64 sy, .int .i64 spin, .bool false]) (by simp [results, Try.results31, go_sem]) rfl ⟨rfl, ((Below.refl _ _).alloc (Nat.le_refl _) _).alloc (by simp) _⟩
theorem bad_nil (b : Bod) (h : b.out = false) : b.bad [] = !b.ok := by simp [Bod.bad, h]
theorem scene_one (b : Bod) (h : b.out = false) : sceneB [b] = b.ok := by
  simp [sceneB, bodsOk, bad_nil b h]
theorem svalid_c (b : Bod) (w : World) (h : b.out = false) :
    Calls Try.prog 30 #[.agg b.cells] w fun e w' => e = .returned (.bool b.ok) ∧ Below w.heap.size w w' := by
  obtain ⟨team, n, m, out⟩ := b
  obtain ⟨ax, ay, sx, sy, spin⟩ := m
  simp only at h
  subst h
  have hs := scene_one ⟨team, n, ⟨ax, ay, sx, sy, spin⟩, false⟩ rfl
  cases hb : (Bod.mk team n ⟨ax, ay, sx, sy, spin⟩ false).ok
  all_goals
    rw [hb] at hs
    have HS := Hid.mk' hs
    clear hs hb
    have hv : ∀ o t, Bods ((w.alloc o).alloc (.cells #[.int .i64 team, .int .i64 n, .int .i64 ax, .int .i64 ay, .int .i64 sx, .int .i64 sy, .int .i64 spin, .bool false] t)) (.slice (some ⟨w.heap.size + 1, 0, none⟩) 1 1) [⟨team, n, ⟨ax, ay, sx, sy, spin⟩, false⟩] := by
      intro o t
      refine .inr ⟨w.heap.size + 1, 0, 1, rfl, by simp, by simp, fun i x hx j hj => ?_⟩
      have hi : i = 0 := by
        rcases Nat.eq_zero_or_pos i with h | h
        · exact h
        · rw [List.getElem?_eq_none (by simp; omega)] at hx; simp at hx
      subst hi
      simp only [List.getElem?_cons_zero, Option.some.injEq] at hx
      subst hx
      simp [go_sem, Bod.cells]
    have HV := Hid.mk' hv
    clear hv
    unfold Bod.cells
    simp only
    go_enter Try.func30, Try.ntmps30
    go_wp2_with (go_at_call 37; go_loud (refine (ccheck_c [⟨team, n, ⟨ax, ay, sx, sy, spin⟩, false⟩] _ _ (HV.out _ _)).mono ?_); rintro e w1 ⟨rfl, hb⟩; rw [HS.out]; simp only [errB])
    go_ret
    exact ⟨rfl, ((Below.refl _ _).alloc (Nat.le_refl _) _).trans (((Below.refl _ _).alloc (by simp) _).trans (hb.mono (by simp <;> omega)))⟩
end Go.Proofs.Yteaadpgpihggeaa
