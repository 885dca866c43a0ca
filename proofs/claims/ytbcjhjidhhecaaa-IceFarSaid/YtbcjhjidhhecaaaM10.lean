/- Parts of the proof, in build order. -/
import Derived.Test.YtbcjhjidhhecaaaM9
/- IceScraped: it answers true. -/
namespace Go.Proofs.Ytbcjhjidhhecaaa
open Go.RowKit

/-! Lists changed: what stays. -/
theorem chg_all {hit : Nat → Bool} {f : Int → Int} {l : List Int} (h : l.all grnB = true) (hf : ∀ z, grnB z = true → grnB (f z) = true) : (chgL hit f l).all grnB = true := by
  rw [List.all_eq_true]
  intro z hz
  obtain ⟨i, hi, rfl⟩ := List.mem_map.1 hz
  have a : grnB (l.getD i 0) = true := by
    have := grn_at h i
    simp only [grnB, Bool.and_eq_true, decide_eq_true_eq]
    exact this
  cases hit i
  · exact a
  · exact hf _ a
theorem chg_chg {hit : Nat → Bool} {f : Int → Int} {l : List Int} (hf : ∀ z, f (f z) = f z) : chgL hit f (chgL hit f l) = chgL hit f l := by
  refine List.ext_getElem (by simp [chg_len]) fun i h1 h2 => ?_
  have a := chg_get hit f (chgL hit f l) (j := i) (by rw [chg_len]; rwa [chg_len, chg_len] at h1)
  have b := chg_get hit f l (j := i) (by rwa [chg_len] at h2)
  rw [List.getD_eq_getElem?_getD, List.getElem?_eq_getElem h1, Option.getD_some] at a
  rw [b] at a
  rw [List.getD_eq_getElem?_getD, List.getElem?_eq_getElem h2, Option.getD_some] at b
  rw [a, b]
  cases hit i
  · rfl
  · simp only [cond_true, hf]
theorem ice_lists {cx cy sd w h : Int} {pb po pb' po' : List Int} (hI : iceB cx cy sd w h pb po = true) (h1 : pb'.length = pb.length) (h2 : po'.length = po.length) (h3 : pb'.all grnB = true) (h4 : po'.all grnB = true) : iceB cx cy sd w h pb' po' = true := by
  unfold iceB at *
  rw [h1, h2, h3, h4]
  simp only [Bool.and_eq_true] at *
  exact ⟨hI.1, trivial, trivial⟩

/-! Sums over a box. -/
theorem mea_le (hit : Nat → Bool) (pb : List Int) (b : Int) (h : ∀ i, hit i = true → pb.getD i 0 ≤ b) : ∀ n, meaS hit pb n ≤ meaN hit n * b
  | 0 => by simp [meaS, meaN, foldC]
  | n + 1 => by
    have ih := mea_le hit pb b h n
    unfold meaS meaN at *
    simp only [foldC]
    cases hh : hit n
    · exact ih
    · have := h n hh
      simp only [cond_true, Int.add_mul]
      omega
theorem mea_more (hit spr : Nat → Bool) (pb pb' : List Int) (b : Int) (hb : 0 ≤ b) (h : ∀ i, hit i = true → spr i = true → pb.getD i 0 ≤ pb'.getD i 0 ∧ pb'.getD i 0 ≤ pb.getD i 0 + b) (h' : ∀ i, hit i = true → spr i = false → pb'.getD i 0 = pb.getD i 0) : ∀ n, meaS hit pb n ≤ meaS hit pb' n ∧ meaS hit pb' n ≤ meaS hit pb n + meaN (fun i => hit i && spr i) n * b
  | 0 => by simp [meaS, meaN, foldC]
  | n + 1 => by
    have ih := mea_more hit spr pb pb' b hb h h' n
    unfold meaS meaN at *
    simp only [foldC]
    cases hh : hit n
    · exact ih
    · cases hs : spr n
      · have := h' n hh hs
        simp only [cond_true, cond_false, Bool.and_false]
        omega
      · have := h n hh hs
        simp only [cond_true, Bool.and_true, Int.add_mul]
        omega
theorem div_next {n w : Int} (hn : 0 ≤ n) (hw : 0 < w) : (n % w + 1 < w → (n + 1) / w = n / w ∧ (n + 1) % w = n % w + 1) ∧ (n % w + 1 = w → (n + 1) / w = n / w + 1 ∧ (n + 1) % w = 0) := by
  have e := Int.mul_ediv_add_emod n w
  constructor
  · intro h
    have a : n + 1 = (n % w + 1) + n / w * w := by rw [Int.mul_comm w] at e; omega
    have b := Int.emod_nonneg n (show w ≠ 0 by omega)
    constructor
    · rw [a, Int.add_mul_ediv_right _ _ (by omega), Int.ediv_eq_zero_of_lt (by omega) h]; omega
    · conv => lhs; rw [a]
      rw [Int.add_mul_emod_self_right, Int.emod_eq_of_lt (by omega) h]
  · intro h
    have a : n + 1 = (n / w + 1) * w := by rw [Int.add_mul, Int.one_mul]; rw [Int.mul_comm w] at e; omega
    constructor
    · conv => lhs; rw [a]
      rw [Int.mul_ediv_cancel _ (by omega)]
    · rw [a]; exact Int.mul_emod_left _ _
/-- Of the cells of a box at most half, and one for each row, get drops. -/
theorem spr_half (cx cy sd w x y u v tn : Int) (hs : 1 ≤ sd) (hw : 1 ≤ w) (ht : 0 ≤ tn) : ∀ n : Nat,
    2 * meaN (fun i => inBx cx cy sd w x y u v i && sprB w tn i) n - meaN (fun i => inBx cx cy sd w x y u v i) n ≤ (n : Int) / w + 1 ∧
    (((n : Int) % w = 0 ∨ cx + (n : Int) % w * sd < x ∨ (inBx cx cy sd w x y u v n = true ∧ sprB w tn n = true)) → 2 * meaN (fun i => inBx cx cy sd w x y u v i && sprB w tn i) n - meaN (fun i => inBx cx cy sd w x y u v i) n ≤ (n : Int) / w)
  | 0 => by simp [meaN, foldC]
  | n + 1 => by
    obtain ⟨i1, i2⟩ := spr_half cx cy sd w x y u v tn hs hw ht n
    have e1 : meaN (fun i => inBx cx cy sd w x y u v i && sprB w tn i) (n + 1) = meaN (fun i => inBx cx cy sd w x y u v i && sprB w tn i) n + bif inBx cx cy sd w x y u v n && sprB w tn n then 1 else 0 := by
      unfold meaN; simp only [foldC]; cases inBx cx cy sd w x y u v n && sprB w tn n <;> simp
    have e2 : meaN (fun i => inBx cx cy sd w x y u v i) (n + 1) = meaN (fun i => inBx cx cy sd w x y u v i) n + bif inBx cx cy sd w x y u v n then 1 else 0 := by
      unfold meaN; simp only [foldC]; cases inBx cx cy sd w x y u v n <;> simp
    have p0 := Int.emod_nonneg (n : Int) (show w ≠ 0 by omega)
    have p1 := Int.emod_lt_of_pos (n : Int) (show 0 < w by omega)
    have d := div_next (show (0 : Int) ≤ n by omega) (show 0 < w by omega)
    have hle : 2 * meaN (fun i => inBx cx cy sd w x y u v i && sprB w tn i) (n + 1) - meaN (fun i => inBx cx cy sd w x y u v i) (n + 1) ≤ (n : Int) / w + 1 := by
      rw [e1, e2]
      cases hh : inBx cx cy sd w x y u v n
      · simp only [Bool.false_and, cond_false]; omega
      · cases hp : sprB w tn n
        · simp only [Bool.and_false, cond_false, cond_true]; omega
        · have := i2 (.inr (.inr ⟨hh, hp⟩))
          simp only [Bool.and_true, cond_true]; omega
    rw [show ((n + 1 : Nat) : Int) = (n : Int) + 1 by omega]
    by_cases hr : (n : Int) % w + 1 = w
    · obtain ⟨q1, q2⟩ := d.2 hr
      rw [q1]
      exact ⟨by omega, fun _ => hle⟩
    · obtain ⟨q1, q2⟩ := d.1 (by omega)
      rw [q1, q2]
      refine ⟨hle, fun hc => ?_⟩
      have sm : ((n : Int) % w + 1) * sd = (n : Int) % w * sd + sd := by rw [Int.add_mul, Int.one_mul]
      rw [e1, e2]
      rcases hc with hc | hc | ⟨h1, h2⟩
      · omega
      · -- not begun
        have := i2 (.inr (.inl (by omega)))
        have hn : inBx cx cy sd w x y u v n = false := by
          unfold inBx
          rw [decide_eq_false (show ¬ x ≤ cx + (n : Int) % w * sd by omega)]
          rfl
        rw [hn]
        simp only [Bool.false_and, cond_false]; omega
      · have hB : inBx cx cy sd w x y u v ((n : Int) + 1) = true := h1
        have hS : sprB w tn ((n : Int) + 1) = true := h2
        unfold inBx at hB
        unfold sprB at hS
        rw [q1, q2] at hB hS
        simp only [Bool.and_eq_true, decide_eq_true_eq] at hB
        rw [beq_iff_eq] at hS
        cases hh : inBx cx cy sd w x y u v n
        · have : cx + (n : Int) % w * sd < x := by
            unfold inBx at hh
            rw [decide_eq_true hB.1.2, decide_eq_true hB.2.2, decide_eq_true (show cx + (n : Int) % w * sd + sd ≤ u by omega)] at hh
            simp only [Bool.and_true, decide_eq_false_iff_not] at hh
            omega
          have := i2 (.inr (.inl this))
          simp only [Bool.false_and, cond_false]; omega
        · have hp : sprB w tn n = false := by
            unfold sprB
            rw [beq_eq_false_iff_ne]
            omega
          rw [hp]
          simp only [Bool.and_false, cond_false, cond_true]; omega
theorem cap_grn {by' z : Int} (hb : 0 ≤ by' ∧ by' ≤ 1000) (hz : grnB z = true) : grnB (capV z by') = true := by
  simp only [grnB, Bool.and_eq_true, decide_eq_true_eq] at *
  unfold capV
  split <;> omega
theorem cap_cap (b z : Int) : capV (capV z b) b = capV z b := by
  unfold capV
  by_cases hz : z < b
  · rw [if_pos hz, if_pos hz]
  · rw [if_neg hz]; split <;> rfl
theorem more_is {z b : Int} (hz : grnB z = true) (hb : 0 ≤ b ∧ b ≤ 1000) : grnB (moreV z b) = true ∧ z ≤ moreV z b ∧ moreV z b ≤ z + b := by
  simp only [grnB, Bool.and_eq_true, decide_eq_true_eq] at *
  unfold moreV
  rw [i64_in (z + b) (by omega)]
  split <;> omega
theorem same_self (cx cy sd w h : Int) (pb po : List Int) : sameB cx cy sd w h pb po cx cy sd w h pb po = true := by
  simp [sameB]
theorem scraped_true {α : Type} (cx cy sd w h : Int) (pb po : List Int) (x y u v b m tn : Int) (hb : 0 ≤ b ∧ b ≤ 1000) (hm : 0 ≤ m ∧ m ≤ 1000) (ht : 0 ≤ tn ∧ tn ≤ 1) (k : AOut → Option α) : zcW cx cy sd w h pb po x y u v b m tn k = k (b1 true) := by
  have gb : grnB b = true := by simp [grnB]; omega
  have gm : grnB m = true := by simp [grnB]; omega
  cases hB : bxvB cx cy sd w h pb po x y u v
  · unfold zcW zcT
    rw [hB]
    rfl
  have hB' := hB
  unfold bxvB at hB'
  rw [Bool.and_eq_true, Bool.and_eq_true] at hB'
  obtain ⟨⟨hI, hP⟩, hO⟩ := hB'
  have g := ice_is _ _ _ _ _ _ _ hI
  obtain ⟨c1, c2⟩ := cels_le g.fw g.fh
  have hpl := g.pl
  have pg : (zcP cx cy sd w x y u v b pb).all grnB = true := chg_all g.pg fun z hz => cap_grn hb hz
  have zg : (zcZ cx cy sd w x y u v po).all grnB = true := chg_all g.og fun z hz => rfl
  have sg : (zcS cx cy sd w x y u v tn m (zcP cx cy sd w x y u v b pb)).all grnB = true := chg_all pg fun z hz => (more_is hz hm).1
  have hl : (zcP cx cy sd w x y u v b pb).length = pb.length := chg_len ..
  have hlS : (zcS cx cy sd w x y u v tn m (zcP cx cy sd w x y u v b pb)).length = pb.length := (chg_len ..).trans hl
  have nE : zcN cx cy sd w h x y u v = meaN (fun i => inBx cx cy sd w x y u v i) (cels w h) := rfl
  have uP : zcU cx cy sd w h x y u v (zcP cx cy sd w x y u v b pb) = meaS (fun i => inBx cx cy sd w x y u v i) (zcP cx cy sd w x y u v b pb) (cels w h) := rfl
  have hI2 := ice_lists hI hl (chg_len ..) pg zg
  have hI3 := ice_lists hI ((chg_len ..).trans hl) (chg_len ..) sg zg
  have hB2 : bxvB cx cy sd w h (zcP cx cy sd w x y u v b pb) (zcZ cx cy sd w x y u v po) x y u v = true := by
    unfold bxvB; rw [hI2, hP, hO]; rfl
  have hB3 : bxvB cx cy sd w h (zcS cx cy sd w x y u v tn m (zcP cx cy sd w x y u v b pb)) (zcZ cx cy sd w x y u v po) x y u v = true := by
    unfold bxvB; rw [hI3, hP, hO]; rfl
  have s1 : zcP cx cy sd w x y u v b (zcP cx cy sd w x y u v b pb) = zcP cx cy sd w x y u v b pb := chg_chg fun z => cap_cap b z
  have s2 : zcZ cx cy sd w x y u v (zcZ cx cy sd w x y u v po) = zcZ cx cy sd w x y u v po := chg_chg fun z => rfl
  -- the numbers
  have hcl : cels w h = pb.length := by omega
  have hit_len : ∀ j : Nat, j < pb.length → (zcP cx cy sd w x y u v b pb).getD j 0 = bif inBx cx cy sd w x y u v j && true then capV (pb.getD j 0) b else pb.getD j 0 := fun j hj => chg_get _ _ _ hj
  have getP : ∀ i : Nat, inBx cx cy sd w x y u v i = true → (zcP cx cy sd w x y u v b pb).getD i 0 ≤ b := fun i hi => by
    rcases Nat.lt_or_ge i pb.length with hj | hj
    · rw [hit_len i hj, hi]
      simp only [Bool.and_true, cond_true]
      unfold capV; split <;> omega
    · rw [List.getD_eq_getElem?_getD, List.getElem?_eq_none (by omega)]
      exact hb.1
  have U1 := mea_le (fun i => inBx cx cy sd w x y u v i) (zcP cx cy sd w x y u v b pb) b getP (cels w h)
  have U2 := mea_more (fun i => inBx cx cy sd w x y u v i) (fun i => sprB w tn i) (zcP cx cy sd w x y u v b pb) (zcS cx cy sd w x y u v tn m (zcP cx cy sd w x y u v b pb)) m hm.1 (fun i hi hp => by
    rcases Nat.lt_or_ge i pb.length with hj | hj
    · have e := chg_get (fun i => inBx cx cy sd w x y u v i && sprB w tn i) (fun i => moreV i m) (zcP cx cy sd w x y u v b pb) (j := i) (by omega)
      rw [e, hi, hp]
      have := grn_at pg i
      have q := more_is (z := (zcP cx cy sd w x y u v b pb).getD i 0) (by simp only [grnB, Bool.and_eq_true, decide_eq_true_eq]; exact this) hm
      exact q.2
    · rw [List.getD_eq_getElem?_getD, List.getD_eq_getElem?_getD, List.getElem?_eq_none (by omega), List.getElem?_eq_none (by rw [chg_len]; omega)]
      simp only [Option.getD_none]; omega) (fun i hi hp => by
    rcases Nat.lt_or_ge i pb.length with hj | hj
    · have e := chg_get (fun i => inBx cx cy sd w x y u v i && sprB w tn i) (fun i => moreV i m) (zcP cx cy sd w x y u v b pb) (j := i) (by omega)
      rw [e, hi, hp]; rfl
    · rw [List.getD_eq_getElem?_getD, List.getD_eq_getElem?_getD, List.getElem?_eq_none (by omega), List.getElem?_eq_none (by rw [chg_len]; omega)]) (cels w h)
  have H := (spr_half cx cy sd w x y u v tn g.fs.1 g.fw.1 ht.1 (cels w h)).2 (.inl (by rw [c2, Int.mul_comm]; exact Int.mul_emod_left _ _))
  rw [c2, Int.mul_comm w h, Int.mul_ediv_cancel _ (show w ≠ 0 by have := g.fw; omega)] at H
  have N1 := mea_in (fun i => inBx cx cy sd w x y u v i) pg (cels w h)
  have N2 := mea_in (fun i => inBx cx cy sd w x y u v i && sprB w tn i) pg (cels w h)
  have mb := mul_in (a := zcN cx cy sd w h x y u v) (b := b) (A := 65536) (B := 1000) ⟨by have := N1.2; omega, by have := N1.2; omega⟩ ⟨by omega, by omega⟩
  have gh := g.fh
  unfold zcW zcT
  rw [hB, hB2, hB3, gb, s1, s2, same_self]
  unfold zcG
  rw [gm, decide_eq_true ht.1, decide_eq_true ht.2]
  simp only [Bool.and_self, cond_true, Bool.not_true, cond_false, bne_self_eq_false]
  rw [i64_in (zcN cx cy sd w h x y u v * b) (by omega), decide_eq_false (show ¬ zcU cx cy sd w h x y u v (zcP cx cy sd w x y u v b pb) > zcN cx cy sd w h x y u v * b by rw [nE, uP]; omega), cond_false, decide_eq_true (show zcU cx cy sd w h x y u v (zcS cx cy sd w x y u v tn m (zcP cx cy sd w x y u v b pb)) ≥ zcU cx cy sd w h x y u v (zcP cx cy sd w x y u v b pb) from U2.1), cond_true]
  have n1 := N1.2
  have n0 := N1.1
  rw [i64_in (zcN cx cy sd w h x y u v + h) (by omega), tdiv_pos (by omega), i64_in ((zcN cx cy sd w h x y u v + h) / 2) (by omega)]
  have mb2 := mul_in (a := (zcN cx cy sd w h x y u v + h) / 2) (b := m) (A := 65536) (B := 1000) ⟨by omega, by omega⟩ ⟨by omega, by omega⟩
  rw [i64_in ((zcN cx cy sd w h x y u v + h) / 2 * m) (by omega), i64_in (zcU cx cy sd w h x y u v (zcP cx cy sd w x y u v b pb) + (zcN cx cy sd w h x y u v + h) / 2 * m) (by omega)]
  have hm2 : meaN (fun i => inBx cx cy sd w x y u v i && sprB w tn i) (cels w h) * m ≤ (zcN cx cy sd w h x y u v + h) / 2 * m := Int.mul_le_mul_of_nonneg_right (by omega) hm.1
  rw [decide_eq_true (show zcU cx cy sd w h x y u v (zcS cx cy sd w x y u v tn m (zcP cx cy sd w x y u v b pb)) ≤ zcU cx cy sd w h x y u v (zcP cx cy sd w x y u v b pb) + (zcN cx cy sd w h x y u v + h) / 2 * m from Int.le_trans U2.2 (Int.add_le_add_left hm2 _))]
theorem per_in {d : Int} (hd : 0 ≤ d ∧ d ≤ 65535) : 0 ≤ (IntKind.i64.wrap d).tmod 1001 ∧ (IntKind.i64.wrap d).tmod 1001 ≤ 1000 := by
  rw [i64_in d (by omega), Int.tmod_eq_emod_of_nonneg hd.1]
  omega
theorem iscraped_true (cx cy sd w h : Int) (pb po : List Int) (x y u v dp dr : Int) (tn : Bool) (hpt : (0 ≤ dp ∧ dp ≤ 65535) ∧ 0 ≤ dr ∧ dr ≤ 65535) : evFn real tab ((twY fsIr spL).env real tab 8 8) 8 Try.f7 AOut [.agg [.int .i64 cx, .int .i64 cy, .int .i64 sd, .int .i64 w, .int .i64 h, .ro (.int .i64) pb, .ro (.int .i64) po], .agg [.int .i64 x, .int .i64 y], .agg [.int .i64 u, .int .i64 v], .int .u16 dp, .int .u16 dr, .bool tn] some = some (b1 true) := by
  refine (iscraped_text 8 0 AOut cx cy sd w h pb po x y u v dp dr tn some).trans ?_
  cases decide ((pb.length : Int) > 400)
  · cases decide ((po.length : Int) > 400)
    · cases tn
      · exact scraped_true cx cy sd w h pb po x y u v _ _ 0 (per_in hpt.1) (per_in hpt.2) (by omega) some
      · exact scraped_true cx cy sd w h pb po x y u v _ _ 1 (per_in hpt.1) (per_in hpt.2) (by omega) some
    · rfl
  · rfl
noncomputable def iscrapedF : List AVal → Option AOut := fun args => match args with
  | [.agg [.int .i64 cx, .int .i64 cy, .int .i64 sd, .int .i64 w, .int .i64 h, .ro (.int .i64) pb, .ro (.int .i64) po], .agg [.int .i64 x, .int .i64 y], .agg [.int .i64 u, .int .i64 v], .int .u16 dp, .int .u16 dr, .bool tn] => if (0 ≤ dp ∧ dp ≤ 65535) ∧ 0 ≤ dr ∧ dr ≤ 65535 then some (b1 true) else none
  | _ => none
theorem iscraped_ok : FspOk Try.prog 7 (toFsp iscrapedF) := tower_Y fsIr_ok spL_ok ⟨Try.func7, fun _ _ => by kernel_rfl⟩ (toFsp_nat _) fun args out hSm hq => by
  replace hq := toFsp_some hq
  unfold iscrapedF at hq
  split at hq
  · rename_i cx cy sd w h pb po x y u v dp dr tn
    split at hq
    · rename_i hpt
      cases hq
      exact ⟨8, 8, iscraped_true cx cy sd w h pb po x y u v dp dr tn hpt⟩
    · cases hq
  · cases hq
end Go.Proofs.Ytbcjhjidhhecaaa

/- Ice: the weight of a way. -/
namespace Go.Proofs.Ytbcjhjidhhecaaa
open Go.RowKit

/-- What is reckoned for a way along the sheet, piece by piece: m pieces are still to come, q is the next border. -/
def wSum (prt : Int → Int → Int) (brd : Nat → Int) (yt : Int) : Nat → Nat → Int → Int
  | 0, _, Y => prt Y yt
  | m + 1, q, Y => if brd q < yt then prt Y (brd q) + wSum prt brd yt m (q + 1) (brd q) else prt Y yt
/-- A border. -/
def brdK (cy sd : Int) (k : Nat) : Int := cy + k * sd
/-- How many borders are not above a place. -/
def brdQ (cy sd h y : Int) : Nat := if y < cy then 0 else min (h.toNat + 1) (((y - cy) / sd).toNat + 1)
theorem brd_next (cy sd : Int) (k : Nat) : brdK cy sd (k + 1) = brdK cy sd k + sd := by
  unfold brdK
  rw [Int.natCast_add, Int.add_mul]; omega
theorem brdQ_is {cy sd h y : Int} (hs : 1 ≤ sd) : brdQ cy sd h y ≤ h.toNat + 1 ∧ (∀ k, k < brdQ cy sd h y → brdK cy sd k ≤ y) ∧ (brdQ cy sd h y ≤ h.toNat → y < brdK cy sd (brdQ cy sd h y)) := by
  unfold brdQ brdK
  split
  · exact ⟨by omega, fun k hk => by omega, fun _ => by simp; omega⟩
  · have a := Int.ediv_nonneg (show 0 ≤ y - cy by omega) (show 0 ≤ sd by omega)
    have e1 := Int.emod_add_mul_ediv (y - cy) sd
    have e2 := Int.emod_nonneg (y - cy) (show sd ≠ 0 by omega)
    have e3 := Int.emod_lt_of_pos (y - cy) (show 0 < sd by omega)
    rw [Int.mul_comm] at e1
    refine ⟨by omega, fun k hk => ?_, fun hq => ?_⟩
    · have : (k : Int) * sd ≤ (y - cy) / sd * sd := Int.mul_le_mul_of_nonneg_right (by omega) (by omega)
      omega
    · have hq' : min (h.toNat + 1) (((y - cy) / sd).toNat + 1) = ((y - cy) / sd).toNat + 1 := by omega
      rw [hq']
      have : ((((y - cy) / sd).toNat + 1 : Nat) : Int) = (y - cy) / sd + 1 := by omega
      rw [this, Int.add_mul]; omega
/-- Products rounded up. -/
theorem mp_up {b d : Int} (hb : 0 ≤ b ∧ b ≤ 65536) (hd : 0 ≤ d ∧ d ≤ 13107200000) : mpV b d 2 = rnd 2 false (b * d) 65536 ∧ 0 ≤ rnd 2 false (b * d) 65536 ∧ rnd 2 false (b * d) 65536 ≤ d := by
  have hm := mul_in hb hd
  have hm2 : b * d ≤ 65536 * d := Int.mul_le_mul_of_nonneg_right hb.2 hd.1
  have hn := rnd_nn (how := 2) (neg := false) hm.1 (show (0 : Int) < 65536 by omega)
  have hu : rnd 2 false (b * d) 65536 = b * d / 65536 + (bif decide (0 < b * d % 65536) then 1 else 0) := by
    unfold rnd up1
    simp
  have hle : rnd 2 false (b * d) 65536 ≤ d := by
    rw [hu]
    by_cases h : 0 < b * d % 65536
    · rw [decide_eq_true h, cond_true]; omega
    · rw [decide_eq_false h, cond_false]; omega
  have hx : xorB (ngB b) (ngB d) = false := by rw [ng_pos hb.1, ng_pos hd.1]; rfl
  have hP : prP b d 2 = rnd 2 false (b * d) 65536 := by
    unfold prP
    rw [hx, ab_pos hb.1, ab_pos hd.1]
    exact rndP_small hm.1 (by omega) (by omega)
  refine ⟨?_, hn, hle⟩
  unfold mpV
  rw [ok_iff.2 (show -70368744177664 ≤ b ∧ b ≤ 70368744177664 by omega), ok_iff.2 (show -70368744177664 ≤ d ∧ d ≤ 70368744177664 by omega), hP, hx]
  unfold fxV
  rw [show fxB (rnd 2 false (b * d) 65536) = true by simp only [fxB, decide_eq_true_eq]; omega]
  rfl

section
variable {α : Type}
def wInF (h yt Y sd : Int) : Int × Int × Int × Unit → Option (LRes (Int × Int × Int × Unit) α) := fun z =>
  bif decide (z.2.1 ≤ h) then
    bif decide (z.2.2.1 ≤ Y) then some (LRes.cont (z.1, IntKind.i64.wrap (z.2.1 + 1), IntKind.i64.wrap (z.2.2.1 + sd), ()))
    else bif decide (z.2.2.1 < yt) then some (LRes.brk 2 (z.2.2.1, z.2.1, z.2.2.1, ())) else some (LRes.brk 2 (z.1, z.2.1, z.2.2.1, ()))
  else some (LRes.brk 2 (z.1, z.2.1, z.2.2.1, ()))
def wOutF (N : Nat) (dom : Int → Int → Bool) (slw : Int → Int → Int) (h yt sd : Int) : Int × Int × Int × Int × Int × Unit → Option (LRes (Int × Int × Int × Int × Int × Unit) α) := fun x =>
  bif decide (x.2.2.2.2.1 < yt) then
    afterL (iterL N (wInF h yt x.2.2.2.2.1 sd) (yt, x.1, x.2.1, ())) fun id y =>
      if id = 2 then
        bif dom x.2.2.2.1 x.2.2.2.2.1 then
          bif y.1 == yt then some (LRes.brk 0 (y.2.1, y.2.2.1, IntKind.i64.wrap (x.2.2.1 + mpV (slw x.2.2.2.1 x.2.2.2.2.1) (IntKind.i64.wrap (y.1 - x.2.2.2.2.1)) 2), x.2.2.2.1, y.1, ()))
          else some (LRes.cont (y.2.1, y.2.2.1, IntKind.i64.wrap (x.2.2.1 + mpV (slw x.2.2.2.1 x.2.2.2.2.1) (IntKind.i64.wrap (y.1 - x.2.2.2.2.1)) 2), x.2.2.2.1, y.1, ()))
        else none
      else none
  else some (LRes.brk 0 (x.1, x.2.1, x.2.2.1, x.2.2.2.1, x.2.2.2.2.1, ()))
end
--AT fsI6 spL
set_option maxRecDepth 100000 in
theorem iweight_text (N n0 : Nat) (α : Type) (cx cy sd w h : Int) (pb po : List Int) (fl ke sw be we : Int) (x y yt : Int) (k : AOut → Option α) : evFn real tab ((twT fsI6 spL).env real tab N (n0 + 8)) N Try.f15 α [.agg [.int .i64 cx, .int .i64 cy, .int .i64 sd, .int .i64 w, .int .i64 h, .ro (.int .i64) pb, .ro (.int .i64) po], .agg [.int .i64 fl, .int .i64 ke, .int .i64 sw, .int .i64 be, .int .i64 we], .agg [.int .i64 x, .int .i64 y], .int .i64 yt] k =
    bif er2 (iceB cx cy sd w h pb po) == 0 then bif er2 (graB fl ke sw be we) == 0 then bif !!([(x, y, ())].any offS) then k (i2 0 2)
    else bif decide (yt ≤ y) then k (i2 0 2) else bif decide (yt > 6553600000) then k (i2 0 2)
    else afterL (iterL N (wOutF N (fun x Y => iceB cx cy sd w h pb po && graB fl ke sw be we && plcB x Y) (slwV cx cy sd w h pb po fl ke sw be we) h yt sd) (0, cy, 0, x, y, ())) fun id z => if id = 0 then k (i2 (rootV (IntKind.i64.wrap (2 * z.2.2.1)) 2) (rootE (IntKind.i64.wrap (2 * z.2.2.1)) 2)) else none
    else k (i2 0 2) else k (i2 0 2) := by kernel_rfl
/-- What is reckoned of a piece. -/
def prtV (cx cy sd w h : Int) (pb po : List Int) (fl ke sw be we : Int) (x Y N : Int) : Int := rnd 2 false (slwV cx cy sd w h pb po fl ke sw be we x Y * (N - Y)) 65536
theorem slwV_in (cx cy sd w h : Int) (pb po : List Int) (fl ke sw be we : Int) (x Y : Int) : 0 ≤ slwV cx cy sd w h pb po fl ke sw be we x Y ∧ slwV cx cy sd w h pb po fl ke sw be we x Y ≤ 65536 := by
  unfold slwV
  cases hb : iceB cx cy sd w h pb po && graB fl ke sw be we && plcB x Y
  · simp
  · simp only [Bool.and_eq_true] at hb
    have g := gra_is _ _ _ _ _ hb.1.2
    have i := ice_is _ _ _ _ _ _ _ hb.1.1
    have := brk_in g (hgt_in i.pg cx cy sd w h x Y) (hgt_in i.og cx cy sd w h x Y)
    have := g.fl
    simp only [cond_true]; omega
theorem w_inner {α : Type} {h yt Y sd cy : Int} (hs : 1 ≤ sd ∧ sd ≤ 6553600000) (hc : -6553600000 ≤ cy ∧ cy ≤ 6553600000) (hh : 1 ≤ h ∧ h ≤ 256) (r q : Nat) (hrq : r ≤ q) (hq : q ≤ h.toNat + 1) (h1 : ∀ k, k < q → brdK cy sd k ≤ Y) (h2 : q ≤ h.toNat → Y < brdK cy sd q) (K : Nat → Int × Int × Int × Unit → Option (LRes (Int × Int × Int × Int × Int × Unit) α)) {N : Nat} (hN : 300 < N) :
    afterL (iterL N (wInF h yt Y sd) (yt, (r : Int), brdK cy sd r, ())) K = K 2 (if q ≤ h.toNat ∧ brdK cy sd q < yt then brdK cy sd q else yt, (q : Int), brdK cy sd q, ()) := by
  have bd : ∀ k : Nat, k ≤ 257 → -6553600000 ≤ brdK cy sd k ∧ brdK cy sd k ≤ 1700000000000 := fun k hk => by
    have := mul_in (a := (k : Int)) (b := sd) (A := 257) (B := 6553600000) ⟨by omega, by omega⟩ ⟨by omega, by omega⟩
    unfold brdK; omega
  refine count_loop (f := wInF h yt Y sd) (fun i : Nat => (yt, ((r + i : Nat) : Int), brdK cy sd (r + i), ())) (q - r) (fun i hi => ?_) ?_ (by omega)
  · unfold wInF
    simp only
    have b := bd (r + i) (by omega)
    rw [decide_eq_true (show ((r + i : Nat) : Int) ≤ h by omega), decide_eq_true (h1 (r + i) (by omega)), i64_in (((r + i : Nat) : Int) + 1) (by omega), i64_in (brdK cy sd (r + i) + sd) (by omega), ← brd_next]
    rfl
  · unfold wInF
    simp only
    rw [show r + (q - r) = q by omega]
    by_cases hqh : q ≤ h.toNat
    · rw [decide_eq_true (show (q : Int) ≤ h by omega), decide_eq_false (show ¬ brdK cy sd q ≤ Y by have := h2 hqh; omega)]
      simp only [cond_true, cond_false]
      by_cases hb : brdK cy sd q < yt
      · rw [decide_eq_true hb, if_pos ⟨hqh, hb⟩]; rfl
      · rw [decide_eq_false hb, if_neg (fun e => hb e.2)]; rfl
    · rw [decide_eq_false (show ¬ (q : Int) ≤ h by omega), if_neg (fun e => hqh e.1)]; rfl
theorem w_outer {α : Type} (cx cy sd w h : Int) (pb po : List Int) (fl ke sw be we : Int) (x yt : Int) (hI : iceB cx cy sd w h pb po = true) (hG : graB fl ke sw be we = true) (hx : -6553600000 ≤ x ∧ x ≤ 6553600000) (hyt : yt ≤ 6553600000) {N : Nat} (hN : 300 < N) (y0 : Int) (hy0 : -6553600000 ≤ y0) :
    ∀ (m r q : Nat) (Y sum : Int), m + q = h.toNat + 1 → r ≤ q → (∀ k, k < q → brdK cy sd k ≤ Y) → (q ≤ h.toNat → Y < brdK cy sd q) → y0 ≤ Y → Y < yt → 0 ≤ sum → sum ≤ Y - y0 → ∀ M, m < M →
      ∃ a b, iterL (α := α) M (wOutF N (fun x Y => iceB cx cy sd w h pb po && graB fl ke sw be we && plcB x Y) (slwV cx cy sd w h pb po fl ke sw be we) h yt sd) ((r : Int), brdK cy sd r, sum, x, Y, ()) = some (.brk 0 (a, b, sum + wSum (prtV cx cy sd w h pb po fl ke sw be we x) (brdK cy sd) yt m q Y, x, yt, ())) := by
  have g := ice_is _ _ _ _ _ _ _ hI
  have gs := g.fs; have gc := g.fc; have gh := g.fh
  have hp : ∀ Y N', Y ≤ N' → -6553600000 ≤ Y → N' ≤ 6553600000 → mpV (slwV cx cy sd w h pb po fl ke sw be we x Y) (IntKind.i64.wrap (N' - Y)) 2 = prtV cx cy sd w h pb po fl ke sw be we x Y N' ∧ 0 ≤ prtV cx cy sd w h pb po fl ke sw be we x Y N' ∧ prtV cx cy sd w h pb po fl ke sw be we x Y N' ≤ N' - Y := fun Y N' h1 h2 h3 => by
    rw [i64_in (N' - Y) (by omega)]
    exact mp_up (slwV_in cx cy sd w h pb po fl ke sw be we x Y) ⟨by omega, by omega⟩
  intro m
  induction m with
  | zero =>
    intro r q Y sum hm hrq h1 h2 hY hYt hs0 hs1 M hM
    obtain ⟨M, rfl⟩ : ∃ M', M = M' + 1 := ⟨M - 1, by omega⟩
    have hd : plcB x Y = true := plc_iff.2 ⟨hx, by omega, by omega⟩
    obtain ⟨p1, p2, p3⟩ := hp Y yt (by omega) (by omega) (by omega)
    refine ⟨(q : Int), brdK cy sd q, ?_⟩
    have e : wOutF (α := α) N (fun x Y => iceB cx cy sd w h pb po && graB fl ke sw be we && plcB x Y) (slwV cx cy sd w h pb po fl ke sw be we) h yt sd ((r : Int), brdK cy sd r, sum, x, Y, ()) = some (.brk 0 ((q : Int), brdK cy sd q, sum + prtV cx cy sd w h pb po fl ke sw be we x Y yt, x, yt, ())) := by
      unfold wOutF
      simp only
      rw [decide_eq_true hYt, cond_true, w_inner gs gc.2 gh r q hrq (by omega) h1 h2 _ hN, if_pos rfl, hI, hG, hd]
      rw [if_neg (show ¬ (q ≤ h.toNat ∧ brdK cy sd q < yt) by omega)]
      simp only [Bool.and_self, cond_true, BEq.rfl]
      rw [p1, i64_in _ (by omega)]
    simp only [iterL, e]
    rfl
  | succ m ih =>
    intro r q Y sum hm hrq h1 h2 hY hYt hs0 hs1 M hM
    obtain ⟨M, rfl⟩ : ∃ M', M = M' + 1 := ⟨M - 1, by omega⟩
    have hd : plcB x Y = true := plc_iff.2 ⟨hx, by omega, by omega⟩
    have hqh : q ≤ h.toNat := by omega
    have hYq := h2 hqh
    by_cases hb : brdK cy sd q < yt
    · obtain ⟨p1, p2, p3⟩ := hp Y (brdK cy sd q) (by omega) (by omega) (by omega)
      have hnx := brd_next cy sd q
      obtain ⟨a, b, e2⟩ := ih q (q + 1) (brdK cy sd q) (sum + prtV cx cy sd w h pb po fl ke sw be we x Y (brdK cy sd q)) (by omega) (by omega) (fun k hk => by
        rcases Nat.lt_or_ge k q with h | h
        · have := h1 k h; omega
        · have : k = q := by omega
          subst this; omega) (fun _ => by omega) (by omega) hb (by omega) (by omega) M (by omega)
      refine ⟨a, b, ?_⟩
      have e : wOutF (α := α) N (fun x Y => iceB cx cy sd w h pb po && graB fl ke sw be we && plcB x Y) (slwV cx cy sd w h pb po fl ke sw be we) h yt sd ((r : Int), brdK cy sd r, sum, x, Y, ()) = some (.cont ((q : Int), brdK cy sd q, sum + prtV cx cy sd w h pb po fl ke sw be we x Y (brdK cy sd q), x, brdK cy sd q, ())) := by
        unfold wOutF
        simp only
        rw [decide_eq_true hYt, cond_true, w_inner gs gc.2 gh r q hrq (by omega) h1 h2 _ hN, if_pos rfl, hI, hG, hd]
        rw [if_pos ⟨hqh, hb⟩, show (brdK cy sd q == yt) = false by simp; omega]
        simp only [Bool.and_self, cond_true, cond_false]
        rw [p1, i64_in _ (by omega)]
      simp only [iterL, e]
      rw [e2]
      simp only [wSum, if_pos hb]
      rw [Int.add_assoc]
    · obtain ⟨p1, p2, p3⟩ := hp Y yt (by omega) (by omega) (by omega)
      refine ⟨(q : Int), brdK cy sd q, ?_⟩
      have e : wOutF (α := α) N (fun x Y => iceB cx cy sd w h pb po && graB fl ke sw be we && plcB x Y) (slwV cx cy sd w h pb po fl ke sw be we) h yt sd ((r : Int), brdK cy sd r, sum, x, Y, ()) = some (.brk 0 ((q : Int), brdK cy sd q, sum + prtV cx cy sd w h pb po fl ke sw be we x Y yt, x, yt, ())) := by
        unfold wOutF
        simp only
        rw [decide_eq_true hYt, cond_true, w_inner gs gc.2 gh r q hrq (by omega) h1 h2 _ hN, if_pos rfl, hI, hG, hd]
        rw [if_neg (fun e => hb e.2)]
        simp only [Bool.and_self, cond_true, BEq.rfl]
        rw [p1, i64_in _ (by omega)]
      simp only [iterL, e, wSum, if_neg hb]
def wgtB (cx cy sd w h : Int) (pb po : List Int) (fl ke sw be we : Int) (x y yt : Int) : Bool := (iceB cx cy sd w h pb po && graB fl ke sw be we && plcB x y) && (decide (y < yt) && decide (yt ≤ 6553600000))
/-- What is reckoned for the whole way. -/
def wgtS (cx cy sd w h : Int) (pb po : List Int) (fl ke sw be we : Int) (x y yt : Int) : Int := wSum (prtV cx cy sd w h pb po fl ke sw be we x) (brdK cy sd) yt (h.toNat + 1 - brdQ cy sd h y) (brdQ cy sd h y) y
noncomputable def wgtV (cx cy sd w h : Int) (pb po : List Int) (fl ke sw be we : Int) (x y yt : Int) : Int := bif wgtB cx cy sd w h pb po fl ke sw be we x y yt then rootV (2 * wgtS cx cy sd w h pb po fl ke sw be we x y yt) 2 else 0
noncomputable def wgtE (cx cy sd w h : Int) (pb po : List Int) (fl ke sw be we : Int) (x y yt : Int) : Int := bif wgtB cx cy sd w h pb po fl ke sw be we x y yt then rootE (2 * wgtS cx cy sd w h pb po fl ke sw be we x y yt) 2 else 2
theorem wgtS_in (cx cy sd w h : Int) (pb po : List Int) (fl ke sw be we : Int) (x y yt : Int) (hb : wgtB cx cy sd w h pb po fl ke sw be we x y yt = true) : 0 ≤ wgtS cx cy sd w h pb po fl ke sw be we x y yt ∧ wgtS cx cy sd w h pb po fl ke sw be we x y yt ≤ yt - y := by
  simp only [wgtB, Bool.and_eq_true, decide_eq_true_eq, plc_iff] at hb
  obtain ⟨⟨⟨hI, hG⟩, hp⟩, hy, hyt⟩ := hb
  have g := ice_is _ _ _ _ _ _ _ hI
  have gs := g.fs
  obtain ⟨q1, q2, q3⟩ := brdQ_is (cy := cy) (h := h) (y := y) gs.1
  unfold wgtS
  have nx : ∀ k, brdQ cy sd h y ≤ k → brdK cy sd k ≤ brdK cy sd (k + 1) := fun k _ => by rw [brd_next]; omega
  generalize brdQ cy sd h y = q at *
  have step : ∀ (m q : Nat) (Y : Int), -6553600000 ≤ Y → Y ≤ yt → (m = 0 ∨ Y ≤ brdK cy sd q) → (∀ k, q ≤ k → brdK cy sd k ≤ brdK cy sd (k + 1)) → 0 ≤ wSum (prtV cx cy sd w h pb po fl ke sw be we x) (brdK cy sd) yt m q Y ∧ wSum (prtV cx cy sd w h pb po fl ke sw be we x) (brdK cy sd) yt m q Y ≤ yt - Y := by
    have hp' : ∀ Y N', -6553600000 ≤ Y → Y ≤ N' → N' ≤ 6553600000 → 0 ≤ prtV cx cy sd w h pb po fl ke sw be we x Y N' ∧ prtV cx cy sd w h pb po fl ke sw be we x Y N' ≤ N' - Y := fun Y N' h0 h1 h3 => (mp_up (slwV_in cx cy sd w h pb po fl ke sw be we x Y) ⟨by omega, by omega⟩).2
    intro m
    induction m with
    | zero => intro q Y h0 h1 _ _; exact hp' Y yt h0 h1 hyt
    | succ m ih =>
      intro q Y h0 h1 h2 h3
      simp only [wSum]
      split
      · have a := hp' Y (brdK cy sd q) h0 (by omega) (by omega)
        have b := ih (q + 1) (brdK cy sd q) (by omega) (by omega) (.inr (h3 q (Nat.le_refl _))) (fun k h => h3 k (by omega))
        omega
      · exact hp' Y yt h0 h1 hyt
  exact step _ q y hp.2.1 (by omega) (by
    rcases Nat.lt_or_ge h.toNat q with h | h
    · left; omega
    · right; have := q3 h; omega) nx
--FIN iweight | besom/ice.Weight | $ICB $GB (x y yt : Int) | $ICE, $GR, $S{x y}, $I{yt} | i2 (wgtV $ICV $GV x y yt) (wgtE $ICV $GV x y yt)
theorem iweight_fin (cx cy sd w h : Int) (pb po : List Int) (fl ke sw be we : Int) (x y yt : Int) (hs : ∀ qSm ∈ ([.agg [.int .i64 cx, .int .i64 cy, .int .i64 sd, .int .i64 w, .int .i64 h, .ro (.int .i64) pb, .ro (.int .i64) po], .agg [.int .i64 fl, .int .i64 ke, .int .i64 sw, .int .i64 be, .int .i64 we], .agg [.int .i64 x, .int .i64 y], .int .i64 yt] : List AVal), Sm qSm) : ∃ N n, ∀ α (k : AOut → Option α), evFn real tab ((twT fsI6 spL).env real tab N n) N Try.f15 α [.agg [.int .i64 cx, .int .i64 cy, .int .i64 sd, .int .i64 w, .int .i64 h, .ro (.int .i64) pb, .ro (.int .i64) po], .agg [.int .i64 fl, .int .i64 ke, .int .i64 sw, .int .i64 be, .int .i64 we], .agg [.int .i64 x, .int .i64 y], .int .i64 yt] k = k (i2 (wgtV cx cy sd w h pb po fl ke sw be we x y yt) (wgtE cx cy sd w h pb po fl ke sw be we x y yt)) := by
  refine ⟨301, 8, fun α k => (iweight_text 301 0 α cx cy sd w h pb po fl ke sw be we x y yt k).trans ?_⟩
  rw [er2_0, er2_0, any_off, gt_le yt 6553600000]
  have hyy : decide (yt ≤ y) = !decide (y < yt) := by
    by_cases h' : y < yt
    · rw [decide_eq_true h', decide_eq_false (by omega)]; rfl
    · rw [decide_eq_false h', decide_eq_true (by omega)]; rfl
  rw [hyy]
  have hS := wgtS_in cx cy sd w h pb po fl ke sw be we x y yt
  unfold wgtV wgtE
  cases hb : wgtB cx cy sd w h pb po fl ke sw be we x y yt
  · have hb' := hb
    unfold wgtB at hb'
    revert hb'
    cases iceB cx cy sd w h pb po <;> cases graB fl ke sw be we <;> cases plcB x y <;> cases decide (y < yt) <;> cases decide (yt ≤ 6553600000) <;> intro hb' <;> first | rfl | cases hb'
  · have hs := hS hb
    have hb' := hb
    simp only [wgtB, Bool.and_eq_true, decide_eq_true_eq, plc_iff] at hb'
    obtain ⟨⟨⟨hI, hG⟩, hp⟩, hy, hyt⟩ := hb'
    have g := ice_is _ _ _ _ _ _ _ hI
    obtain ⟨q1, q2, q3⟩ := brdQ_is (cy := cy) (h := h) (y := y) g.fs.1
    have gh := g.fh
    obtain ⟨a, b, e⟩ := w_outer (α := α) cx cy sd w h pb po fl ke sw be we x yt hI hG hp.1 hyt (N := 301) (by omega) y hp.2.1 (h.toNat + 1 - brdQ cy sd h y) 0 (brdQ cy sd h y) y 0 (by omega) (by omega) q2 q3 (Int.le_refl _) hy (Int.le_refl _) (by omega) 301 (by omega)
    have e0 : brdK cy sd 0 = cy := by unfold brdK; simp
    rw [e0] at e
    rw [hI, hG, (plc_iff (x := x) (y := y)).2 hp, decide_eq_true hy, decide_eq_true hyt]
    simp only [Bool.not_true, Bool.not_false, cond_true, cond_false]
    have e' : iterL (α := α) 301 (wOutF 301 (fun x Y => true && true && plcB x Y) (slwV cx cy sd w h pb po fl ke sw be we) h yt sd) (0, cy, 0, x, y, ()) = some (.brk 0 (a, b, 0 + wgtS cx cy sd w h pb po fl ke sw be we x y yt, x, yt, ())) := by
      have := e
      rw [hI, hG] at this
      exact this
    rw [e']
    simp only [afterL, if_pos]
    rw [Int.zero_add, i64_in (2 * wgtS cx cy sd w h pb po fl ke sw be we x y yt) (by omega)]
--CON iweight
noncomputable def iweightS : Fsp := fun _ args k => match args with
  | [.agg [.int .i64 cx, .int .i64 cy, .int .i64 sd, .int .i64 w, .int .i64 h, .ro (.int .i64) pb, .ro (.int .i64) po], .agg [.int .i64 fl, .int .i64 ke, .int .i64 sw, .int .i64 be, .int .i64 we], .agg [.int .i64 x, .int .i64 y], .int .i64 yt] => k (i2 (wgtV cx cy sd w h pb po fl ke sw be we x y yt) (wgtE cx cy sd w h pb po fl ke sw be we x y yt))
  | _ => none
theorem iweightS_ok : FspOk Try.prog 15 iweightS := tower_S fsI6_ok spL_ok ⟨Try.func15, fun _ _ => by kernel_rfl⟩ (by intro α args k; unfold iweightS; split <;> rfl) fun args out hSm hEq => by
  unfold iweightS at hEq
  split at hEq
  · rename_i cx cy sd w h pb po fl ke sw be we x y yt
    obtain ⟨N, n, e⟩ := iweight_fin cx cy sd w h pb po fl ke sw be we x y yt hSm
    exact ⟨N, n, (e AOut some).trans hEq⟩
  · cases hEq
--END
end Go.Proofs.Ytbcjhjidhhecaaa

/- IceFar: its text, and that it answers true. -/
namespace Go.Proofs.Ytbcjhjidhhecaaa
open Go.RowKit

--FS fsIf | fsIb | iweight=besom/ice.Weight
noncomputable def fsIf : FuncId → Option Fsp := fun g =>
  if g = 15 then some iweightS else
  fsIb g
theorem fsIf_ok : FsOk fsIf :=
  fs_cons iweightS_ok <|
  fsIb_ok
--END
--AT fsIf spL twY
def farT {α : Type} (fl h y yt V : Int) (k : AOut → Option α) : Option α :=
  bif decide (IntKind.i64.wrap (V * V) ≥ IntKind.i64.wrap (IntKind.i64.wrap (2 * fl) * IntKind.i64.wrap (yt - y))) then
    k (b1 (decide (IntKind.i64.wrap (IntKind.i64.wrap (V - 1) * IntKind.i64.wrap (V - 1)) < IntKind.i64.wrap (IntKind.i64.wrap (IntKind.i64.wrap (2 * fl) * IntKind.i64.wrap (yt - y)) + IntKind.i64.wrap (131072 * IntKind.i64.wrap (h + 2))))))
  else k (b1 false)
noncomputable def farA {α : Type} (cx cy sd w h : Int) (pb po : List Int) (fl ke sw be we : Int) (x y yt mo : Int) (fb : Bool) (k : AOut → Option α) : Option α :=
  bif wgtE cx cy sd w h pb po fl ke sw be we x y yt != 0 then k (b1 true)
  else bif wgtE cx cy sd w h pb po fl ke sw be we x y (IntKind.i64.wrap (yt + IntKind.i64.wrap mo)) != 0 then k (b1 true)
  else bif decide (wgtV cx cy sd w h pb po fl ke sw be we x y (IntKind.i64.wrap (yt + IntKind.i64.wrap mo)) < wgtV cx cy sd w h pb po fl ke sw be we x y yt) then k (b1 false)
  else bif !fb then k (b1 true)
  else farT fl h y yt (wgtV cx cy sd w h pb po fl ke sw be we x y yt) k
def makC (n : Int) : Prop := 0 ≤ n ∧ n ≤ n ∧ n * ((8 : Nat) : Int) ≤ (room : Int)
instance (n : Int) : Decidable (makC n) := inferInstanceAs (Decidable (_ ∧ _))
set_option maxRecDepth 100000 in
theorem ifar_text (N n0 : Nat) (α : Type) (cx cy sd w h : Int) (pb po : List Int) (fl ke sw be we : Int) (x y yt mo : Int) (fb : Bool) (k : AOut → Option α) : evFn real tab ((twY fsIf spL).env real tab N (n0 + 8)) N Try.f4 α [.agg [.int .i64 cx, .int .i64 cy, .int .i64 sd, .int .i64 w, .int .i64 h, .ro (.int .i64) pb, .ro (.int .i64) po], .agg [.int .i64 fl, .int .i64 ke, .int .i64 sw, .int .i64 be, .int .i64 we], .agg [.int .i64 x, .int .i64 y], .int .i64 yt, .int .u32 mo, .bool fb] k =
    bif decide ((pb.length : Int) > 400) then k (b1 true) else bif decide ((po.length : Int) > 400) then k (b1 true)
    else bif fb then
      if makC (pb.length : Int) then if makC (po.length : Int) then
        farA cx cy sd w h (List.replicate (pb.length : Int).toNat 0) (List.replicate (po.length : Int).toNat 0) fl ke sw be we x y yt mo fb k
      else none else none
    else farA cx cy sd w h pb po fl ke sw be we x y yt mo fb k := by kernel_rfl

/-! Roots that are rounded up. -/
theorem up_is {a : Int} (h0 : 0 ≤ a) (h1 : a < 85070591730234615865843651857942052864) : 0 ≤ rtN a 2 ∧ a ≤ rtN a 2 * rtN a 2 ∧ (0 < a → (rtN a 2 - 1) * (rtN a 2 - 1) < a) ∧ (a = 0 → rtN a 2 = 0) := by
  obtain ⟨r0, r1, r2, r3⟩ := rt_spec h0 h1
  have hu : rtUp a 2 = !(rt a * rt a == a) := rfl
  unfold rtN
  rw [hu]
  by_cases h : rt a * rt a = a
  · rw [h]
    simp only [BEq.rfl, Bool.not_true, cond_false, Int.add_zero]
    refine ⟨r0, by omega, fun hp => ?_, fun hz => ?_⟩
    · have hr : 1 ≤ rt a := by
        rcases Int.lt_or_le (rt a) 1 with c | c
        · have : rt a = 0 := by omega
          rw [this] at h; omega
        · exact c
      have e : (rt a - 1) * (rt a - 1) = rt a * rt a - 2 * rt a + 1 := by rw [Int.sub_mul, Int.mul_sub]; omega
      omega
    · rcases Int.lt_or_le (rt a) 1 with c | c
      · omega
      · have : 1 * 1 ≤ rt a * rt a := Int.mul_le_mul c c (by omega) (by omega)
        omega
  · rw [show (rt a * rt a == a) = false by simpa using h]
    simp only [Bool.not_false, cond_true]
    refine ⟨by omega, by omega, fun _ => ?_, fun hz => ?_⟩
    · rw [show rt a + 1 - 1 = rt a by omega]; omega
    · have := Int.mul_nonneg r0 r0
      omega
theorem up_mono {a b : Int} (h0 : 0 ≤ a) (h : a ≤ b) (h1 : b < 85070591730234615865843651857942052864) : rtN a 2 ≤ rtN b 2 := by
  obtain ⟨a0, a1, a2, a3⟩ := up_is h0 (by omega)
  obtain ⟨b0, b1, b2, b3⟩ := up_is (show 0 ≤ b by omega) h1
  rcases Int.lt_or_le (rtN b 2) (rtN a 2) with c | c
  · rcases Int.lt_or_le 0 a with d | d
    · have e := a2 d
      have : rtN b 2 * rtN b 2 ≤ (rtN a 2 - 1) * (rtN a 2 - 1) := Int.mul_le_mul (by omega) (by omega) b0 (by omega)
      omega
    · have := a3 (by omega); omega
  · exact c

/-! The sum along a way. -/
section
variable {prt : Int → Int → Int} {brd : Nat → Int}
theorem wSum_nn (hn : ∀ Y N, Y ≤ N → 0 ≤ prt Y N) (hb : ∀ k, brd k ≤ brd (k + 1)) (yt : Int) : ∀ (m q : Nat) (Y : Int), Y ≤ yt → (m = 0 ∨ Y ≤ brd q) → 0 ≤ wSum prt brd yt m q Y
  | 0, q, Y, h, _ => hn Y yt h
  | m + 1, q, Y, h, hq => by
    simp only [wSum]
    split
    · rename_i c
      have a := hn Y (brd q) (by omega)
      have b := wSum_nn hn hb yt m (q + 1) (brd q) (by omega) (.inr (hb q))
      omega
    · exact hn Y yt h
theorem wSum_mono (hn : ∀ Y N, Y ≤ N → 0 ≤ prt Y N) (hm : ∀ Y N N', Y ≤ N → N ≤ N' → prt Y N ≤ prt Y N') (hb : ∀ k, brd k ≤ brd (k + 1)) {yt yt' : Int} (ht : yt ≤ yt') : ∀ (m q : Nat) (Y : Int), Y ≤ yt → (m = 0 ∨ Y ≤ brd q) → wSum prt brd yt m q Y ≤ wSum prt brd yt' m q Y
  | 0, q, Y, h, _ => hm Y yt yt' h ht
  | m + 1, q, Y, h, hq => by
    simp only [wSum]
    by_cases c : brd q < yt
    · rw [if_pos c, if_pos (by omega)]
      have := wSum_mono hn hm hb ht m (q + 1) (brd q) (by omega) (.inr (hb q))
      omega
    · rw [if_neg c]
      split
      · rename_i d
        have a := hm Y yt (brd q) h (by omega)
        have b := wSum_nn hn hb yt' m (q + 1) (brd q) (by omega) (.inr (hb q))
        omega
      · exact hm Y yt yt' h ht
theorem wSum_flat {fl : Int} (hp : ∀ Y N, Y ≤ N → fl * (N - Y) ≤ 65536 * prt Y N ∧ 65536 * prt Y N ≤ fl * (N - Y) + 65535) (hb : ∀ k, brd k ≤ brd (k + 1)) (yt : Int) : ∀ (m q : Nat) (Y : Int), Y ≤ yt → (m = 0 ∨ Y ≤ brd q) → fl * (yt - Y) ≤ 65536 * wSum prt brd yt m q Y ∧ 65536 * wSum prt brd yt m q Y ≤ fl * (yt - Y) + 65535 * (m + 1)
  | 0, q, Y, h, _ => by have := hp Y yt h; simp only [wSum]; omega
  | m + 1, q, Y, h, hq => by
    simp only [wSum]
    split
    · rename_i c
      have a := hp Y (brd q) (by omega)
      have b := wSum_flat hp hb yt m (q + 1) (brd q) (by omega) (.inr (hb q))
      have e : fl * (yt - Y) = fl * (brd q - Y) + fl * (yt - brd q) := by rw [← Int.mul_add]; congr 1; omega
      rw [e]
      omega
    · have := hp Y yt h; omega
end
theorem ceil_is {a : Int} (h : 0 ≤ a) : a ≤ 65536 * rnd 2 false a 65536 ∧ 65536 * rnd 2 false a 65536 ≤ a + 65535 := by
  have hu : rnd 2 false a 65536 = a / 65536 + (bif decide (0 < a % 65536) then 1 else 0) := by
    unfold rnd up1
    simp
  rw [hu]
  by_cases c : 0 < a % 65536
  · rw [decide_eq_true c, cond_true]; omega
  · rw [decide_eq_false c, cond_false]; omega
theorem wgt_is {S : Int} (h0 : 0 ≤ S) (h1 : S ≤ 13107200000) : rootV (2 * S) 2 = rtN (131072 * S) 2 ∧ rtN (131072 * S) 2 ≤ 1073741824 := by
  obtain ⟨r0, r1, r2, r3⟩ := rt_spec (s := 131072 * S) (by omega) (by omega)
  have hr : rt (131072 * S) < 1073741824 := by
    rcases Int.lt_or_le (rt (131072 * S)) 1073741824 with h | h
    · exact h
    · have : (1073741824 : Int) * 1073741824 ≤ rt (131072 * S) * rt (131072 * S) := Int.mul_le_mul h h (by omega) (by omega)
      omega
  have hN : rtN (131072 * S) 2 ≤ 1073741824 := by
    unfold rtN
    cases rtUp (131072 * S) 2 <;> simp only [cond_true, cond_false] <;> omega
  refine ⟨?_, hN⟩
  unfold rootV rootB
  rw [ok_iff.2 (show -70368744177664 ≤ 2 * S ∧ 2 * S ≤ 70368744177664 by omega), ng_pos (by omega), show 2 * S * 65536 = 131072 * S by omega]
  unfold fxV
  rw [show fxB (rtN (131072 * S) 2) = true by simp only [fxB, decide_eq_true_eq]; omega]
  rfl
theorem wgtE_B {cx cy sd w h : Int} {pb po : List Int} {fl ke sw be we x y yt : Int} (hE : (wgtE cx cy sd w h pb po fl ke sw be we x y yt != 0) = false) : wgtB cx cy sd w h pb po fl ke sw be we x y yt = true := by
  cases hb : wgtB cx cy sd w h pb po fl ke sw be we x y yt
  · unfold wgtE at hE
    rw [hb] at hE
    cases hE
  · rfl
theorem far_true {α : Type} (cx cy sd w h : Int) (pb po : List Int) (fl ke sw be we : Int) (x y yt mo : Int) (fb : Bool) (hmo : 0 ≤ mo ∧ mo ≤ 4294967295) (hf : fb = true → ∀ i : Nat, pb.getD i 0 = 0 ∧ po.getD i 0 = 0) (k : AOut → Option α) : farA cx cy sd w h pb po fl ke sw be we x y yt mo fb k = k (b1 true) := by
  unfold farA
  cases hE : wgtE cx cy sd w h pb po fl ke sw be we x y yt != 0
  case true => rfl
  cases hE2 : wgtE cx cy sd w h pb po fl ke sw be we x y (IntKind.i64.wrap (yt + IntKind.i64.wrap mo)) != 0
  case true => rfl
  have hB := wgtE_B hE
  have hB2 := wgtE_B hE2
  have hS := wgtS_in _ _ _ _ _ _ _ _ _ _ _ _ _ _ _ hB
  have hS2 := wgtS_in _ _ _ _ _ _ _ _ _ _ _ _ _ _ _ hB2
  have hB' := hB
  simp only [wgtB, Bool.and_eq_true, decide_eq_true_eq, plc_iff] at hB'
  obtain ⟨⟨⟨hI, hG⟩, hp⟩, hy, hyt⟩ := hB'
  have g := ice_is _ _ _ _ _ _ _ hI
  have gg := gra_is _ _ _ _ _ hG
  have hw : IntKind.i64.wrap (yt + IntKind.i64.wrap mo) = yt + mo := by rw [i64_in mo (by omega), i64_in (yt + mo) (by omega)]
  rw [hw] at hB2 hS2 ⊢
  have hB2' := hB2
  simp only [wgtB, Bool.and_eq_true, decide_eq_true_eq] at hB2'
  have hyt2 := hB2'.2.2
  have eV : wgtV cx cy sd w h pb po fl ke sw be we x y yt = rtN (131072 * wgtS cx cy sd w h pb po fl ke sw be we x y yt) 2 := by
    unfold wgtV; rw [hB]; exact (wgt_is hS.1 (by omega)).1
  have eV2 : wgtV cx cy sd w h pb po fl ke sw be we x y (yt + mo) = rtN (131072 * wgtS cx cy sd w h pb po fl ke sw be we x y (yt + mo)) 2 := by
    unfold wgtV; rw [hB2]; exact (wgt_is hS2.1 (by omega)).1
  obtain ⟨q1, q2, q3⟩ := brdQ_is (cy := cy) (h := h) (y := y) g.fs.1
  have hbr : ∀ j, brdK cy sd j ≤ brdK cy sd (j + 1) := fun j => by rw [brd_next]; have := g.fs; omega
  have hst : h.toNat + 1 - brdQ cy sd h y = 0 ∨ y ≤ brdK cy sd (brdQ cy sd h y) := by
    rcases Nat.lt_or_ge h.toNat (brdQ cy sd h y) with c | c
    · exact .inl (by omega)
    · exact .inr (by have := q3 c; omega)
  have hsl := fun Y => slwV_in cx cy sd w h pb po fl ke sw be we x Y
  have hn : ∀ Y N, Y ≤ N → 0 ≤ prtV cx cy sd w h pb po fl ke sw be we x Y N := fun Y N hYN => by
    have a := ceil_is (Int.mul_nonneg (hsl Y).1 (show 0 ≤ N - Y by omega))
    have b := Int.mul_nonneg (hsl Y).1 (show 0 ≤ N - Y by omega)
    unfold prtV; omega
  have hm : ∀ Y N N', Y ≤ N → N ≤ N' → prtV cx cy sd w h pb po fl ke sw be we x Y N ≤ prtV cx cy sd w h pb po fl ke sw be we x Y N' := fun Y N N' h1 h2 => by
    have c : slwV cx cy sd w h pb po fl ke sw be we x Y * (N - Y) ≤ slwV cx cy sd w h pb po fl ke sw be we x Y * (N' - Y) := Int.mul_le_mul_of_nonneg_left (by omega) (hsl Y).1
    have b := Int.mul_nonneg (hsl Y).1 (show 0 ≤ N - Y by omega)
    have a := ceil_is b
    have a' := ceil_is (show 0 ≤ slwV cx cy sd w h pb po fl ke sw be we x Y * (N' - Y) by omega)
    unfold prtV; omega
  have mono : wgtS cx cy sd w h pb po fl ke sw be we x y yt ≤ wgtS cx cy sd w h pb po fl ke sw be we x y (yt + mo) := wSum_mono hn hm hbr (by omega) _ _ _ (by omega) hst
  have key := up_mono (a := 131072 * wgtS cx cy sd w h pb po fl ke sw be we x y yt) (b := 131072 * wgtS cx cy sd w h pb po fl ke sw be we x y (yt + mo)) (by omega) (by omega) (by omega)
  rw [decide_eq_false (show ¬ wgtV cx cy sd w h pb po fl ke sw be we x y (yt + mo) < wgtV cx cy sd w h pb po fl ke sw be we x y yt by rw [eV, eV2]; omega)]
  cases fb
  · rfl
  have hz := hf rfl
  have gk := gg.ke
  have gf := gg.fl
  have gh := g.fh
  have hflat : ∀ Y N, y ≤ Y → N ≤ yt → Y ≤ N → prtV cx cy sd w h pb po fl ke sw be we x Y N = rnd 2 false (fl * (N - Y)) 65536 := fun Y N h1 h2 h3 => by
    have hd : plcB x Y = true := plc_iff.2 ⟨hp.1, by omega, by omega⟩
    have e : slwV cx cy sd w h pb po fl ke sw be we x Y = fl := by
      unfold slwV
      rw [hI, hG, hd]
      have z1 : hgt pb cx cy sd w h x Y = 0 := by
        unfold hgt; cases inCel cx cy sd w h x Y
        · rfl
        · exact (hz _).1
      have z2 : hgt po cx cy sd w h x Y = 0 := by
        unfold hgt; cases inCel cx cy sd w h x Y
        · rfl
        · exact (hz _).2
      rw [z1, z2]
      exact brk_none gg
    unfold prtV; rw [e]
  have fl0 : wgtS cx cy sd w h pb po fl ke sw be we x y yt = wSum (fun Y N => rnd 2 false (fl * (N - Y)) 65536) (brdK cy sd) yt (h.toNat + 1 - brdQ cy sd h y) (brdQ cy sd h y) y := by
    unfold wgtS
    have gen : ∀ (m q : Nat) (Y : Int), y ≤ Y → Y ≤ yt → (m = 0 ∨ Y ≤ brdK cy sd q) → wSum (prtV cx cy sd w h pb po fl ke sw be we x) (brdK cy sd) yt m q Y = wSum (fun Y N => rnd 2 false (fl * (N - Y)) 65536) (brdK cy sd) yt m q Y := by
      intro m
      induction m with
      | zero => intro q Y h1 h2 _; exact hflat Y yt h1 (Int.le_refl _) h2
      | succ m ih =>
        intro q Y h1 h2 h3
        simp only [wSum]
        have h4 : Y ≤ brdK cy sd q := by omega
        split
        · rename_i c
          rw [hflat Y _ h1 (by omega) h4, ih (q + 1) (brdK cy sd q) (by omega) (by omega) (.inr (hbr q))]
        · exact hflat Y yt h1 (Int.le_refl _) h2
    exact gen _ _ _ (Int.le_refl _) (by omega) hst
  have hfl := wSum_flat (prt := fun Y N => rnd 2 false (fl * (N - Y)) 65536) (fl := fl) (fun Y N hYN => ceil_is (Int.mul_nonneg (by omega) (by omega))) hbr yt (h.toNat + 1 - brdQ cy sd h y) (brdQ cy sd h y) y (by omega) hst
  rw [← fl0] at hfl
  have hmm : fl * (yt - y) ≤ 65536 * 13107200000 := Int.mul_le_mul gf (by omega) (by omega) (by omega)
  have hpos : 1 * 1 ≤ fl * (yt - y) := Int.mul_le_mul (by omega) (by omega) (by omega) (by omega)
  obtain ⟨u0, u1, u2, _⟩ := up_is (a := 131072 * wgtS cx cy sd w h pb po fl ke sw be we x y yt) (by omega) (by omega)
  have ub := (wgt_is hS.1 (by omega)).2
  have u2 := u2 (by omega)
  have sq1 : rtN (131072 * wgtS cx cy sd w h pb po fl ke sw be we x y yt) 2 * rtN (131072 * wgtS cx cy sd w h pb po fl ke sw be we x y yt) 2 ≤ 1073741824 * 1073741824 := Int.mul_le_mul ub ub u0 (by omega)
  have e2 : IntKind.i64.wrap (IntKind.i64.wrap (2 * fl) * IntKind.i64.wrap (yt - y)) = 2 * (fl * (yt - y)) := by
    rw [i64_in (2 * fl) (by omega), i64_in (yt - y) (by omega), Int.mul_assoc, i64_in _ (by omega)]
  unfold farT
  simp only [Bool.not_true, cond_false]
  rw [eV, e2]
  have hV1 : -1 ≤ rtN (131072 * wgtS cx cy sd w h pb po fl ke sw be we x y yt) 2 - 1 := by omega
  have sq0 : 0 ≤ (rtN (131072 * wgtS cx cy sd w h pb po fl ke sw be we x y yt) 2 - 1) * (rtN (131072 * wgtS cx cy sd w h pb po fl ke sw be we x y yt) 2 - 1) := by
    rcases Int.lt_or_le (rtN (131072 * wgtS cx cy sd w h pb po fl ke sw be we x y yt) 2 - 1) 0 with c | c
    · have : rtN (131072 * wgtS cx cy sd w h pb po fl ke sw be we x y yt) 2 - 1 = -1 := by omega
      rw [this]; decide
    · exact Int.mul_nonneg c c
  have u00 := Int.mul_nonneg u0 u0
  generalize rtN (131072 * wgtS cx cy sd w h pb po fl ke sw be we x y yt) 2 = V at *
  rw [i64_in (V * V) (by omega), i64_in (V - 1) (by omega), i64_in ((V - 1) * (V - 1)) (by omega), i64_in (h + 2) (by omega), i64_in (131072 * (h + 2)) (by omega), i64_in (2 * (fl * (yt - y)) + 131072 * (h + 2)) (by omega)]
  rw [decide_eq_true (show V * V ≥ 2 * (fl * (yt - y)) by omega), cond_true, decide_eq_true (show (V - 1) * (V - 1) < 2 * (fl * (yt - y)) + 131072 * (h + 2) by omega)]
theorem rep_getD (n i : Nat) : (List.replicate n (0 : Int)).getD i 0 = 0 := by
  rw [List.getD_eq_getElem?_getD, List.getElem?_replicate]
  split <;> rfl
theorem ifar_true (cx cy sd w h : Int) (pb po : List Int) (fl ke sw be we : Int) (x y yt mo : Int) (fb : Bool) (hmo : 0 ≤ mo ∧ mo ≤ 4294967295) : evFn real tab ((twY fsIf spL).env real tab 8 8) 8 Try.f4 AOut [.agg [.int .i64 cx, .int .i64 cy, .int .i64 sd, .int .i64 w, .int .i64 h, .ro (.int .i64) pb, .ro (.int .i64) po], .agg [.int .i64 fl, .int .i64 ke, .int .i64 sw, .int .i64 be, .int .i64 we], .agg [.int .i64 x, .int .i64 y], .int .i64 yt, .int .u32 mo, .bool fb] some = some (b1 true) := by
  refine (ifar_text 8 0 AOut cx cy sd w h pb po fl ke sw be we x y yt mo fb some).trans ?_
  by_cases h1 : (pb.length : Int) > 400
  · rw [decide_eq_true h1]; rfl
  · by_cases h2 : (po.length : Int) > 400
    · rw [decide_eq_false h1, decide_eq_true h2]; rfl
    · rw [decide_eq_false h1, decide_eq_false h2]
      cases fb
      · exact far_true cx cy sd w h pb po fl ke sw be we x y yt mo false hmo (fun c => by cases c) some
      · have c1 : makC (pb.length : Int) := ⟨by omega, by omega, by simp [room]; omega⟩
        have c2 : makC (po.length : Int) := ⟨by omega, by omega, by simp [room]; omega⟩
        show (if makC (pb.length : Int) then if makC (po.length : Int) then _ else _ else _) = _
        rw [if_pos c1, if_pos c2]
        exact far_true _ _ _ _ _ _ _ fl ke sw be we x y yt mo true hmo (fun _ i => ⟨rep_getD _ i, rep_getD _ i⟩) some
noncomputable def ifarF : List AVal → Option AOut := fun args => match args with
  | [.agg [.int .i64 cx, .int .i64 cy, .int .i64 sd, .int .i64 w, .int .i64 h, .ro (.int .i64) pb, .ro (.int .i64) po], .agg [.int .i64 fl, .int .i64 ke, .int .i64 sw, .int .i64 be, .int .i64 we], .agg [.int .i64 x, .int .i64 y], .int .i64 yt, .int .u32 mo, .bool fb] => if 0 ≤ mo ∧ mo ≤ 4294967295 then some (b1 true) else none
  | _ => none
theorem ifar_ok : FspOk Try.prog 4 (toFsp ifarF) := tower_Y fsIf_ok spL_ok ⟨Try.func4, fun _ _ => by kernel_rfl⟩ (toFsp_nat _) fun args out hSm hq => by
  replace hq := toFsp_some hq
  unfold ifarF at hq
  split at hq
  · rename_i cx cy sd w h pb po fl ke sw be we x y yt mo fb
    split at hq
    · rename_i hpt
      cases hq
      exact ⟨8, 8, ifar_true cx cy sd w h pb po fl ke sw be we x y yt mo fb hpt⟩
    · cases hq
  · cases hq
end Go.Proofs.Ytbcjhjidhhecaaa
