/- Parts of the proof, in build order. -/
import Derived.Test.YtbcjhjidhhecaaaM9
/- IceScraped: it answers true. -/
namespace Go.Proofs.Ytbcjhjidhhecaaa
open Go.RowKit

/-! Lists changed: what stays. -/
theorem chg_all {hit : Nat → Bool} {f : Int → Int} {l : List Int} (h : l.all grnB = true) (hf : ∀ z, grnB z = true → grnB (f z) = true) : (chgL hit f l).all grnB = true := by
  rw [List.all_eq_true]
  intro z hz
  obtain ⟨i, hi, rfl⟩ := List.mem_map.1 hz
  have a : grnB (l.getD i 0) = true := by
    have := grn_at h i
    simp only [grnB, Bool.and_eq_true, decide_eq_true_eq]
    exact this
  cases hit i
  · exact a
  · exact hf _ a
theorem chg_chg {hit : Nat → Bool} {f : Int → Int} {l : List Int} (hf : ∀ z, f (f z) = f z) : chgL hit f (chgL hit f l) = chgL hit f l := by
  refine List.ext_getElem (by simp [chg_len]) fun i h1 h2 => ?_
  have a := chg_get hit f (chgL hit f l) (j := i) (by rw [chg_len]; rwa [chg_len, chg_len] at h1)
  have b := chg_get hit f l (j := i) (by rwa [chg_len] at h2)
  rw [List.getD_eq_getElem?_getD, List.getElem?_eq_getElem h1, Option.getD_some] at a
  rw [b] at a
  rw [List.getD_eq_getElem?_getD, List.getElem?_eq_getElem h2, Option.getD_some] at b
  rw [a, b]
  cases hit i
  · rfl
  · simp only [cond_true, hf]
theorem ice_lists {cx cy sd w h : Int} {pb po pb' po' : List Int} (hI : iceB cx cy sd w h pb po = true) (h1 : pb'.length = pb.length) (h2 : po'.length = po.length) (h3 : pb'.all grnB = true) (h4 : po'.all grnB = true) : iceB cx cy sd w h pb' po' = true := by
  unfold iceB at *
  rw [h1, h2, h3, h4]
  simp only [Bool.and_eq_true] at *
  exact ⟨hI.1, trivial, trivial⟩

/-! Sums over a box. -/
theorem mea_le (hit : Nat → Bool) (pb : List Int) (b : Int) (h : ∀ i, hit i = true → pb.getD i 0 ≤ b) : ∀ n, meaS hit pb n ≤ meaN hit n * b
  | 0 => by simp [meaS, meaN, foldC]
  | n + 1 => by
    have ih := mea_le hit pb b h n
    unfold meaS meaN at *
    simp only [foldC]
    cases hh : hit n
    · exact ih
    · have := h n hh
      simp only [cond_true, Int.add_mul]
      omega
theorem mea_more (hit spr : Nat → Bool) (pb pb' : List Int) (b : Int) (hb : 0 ≤ b) (h : ∀ i, hit i = true → spr i = true → pb.getD i 0 ≤ pb'.getD i 0 ∧ pb'.getD i 0 ≤ pb.getD i 0 + b) (h' : ∀ i, hit i = true → spr i = false → pb'.getD i 0 = pb.getD i 0) : ∀ n, meaS hit pb n ≤ meaS hit pb' n ∧ meaS hit pb' n ≤ meaS hit pb n + meaN (fun i => hit i && spr i) n * b
  | 0 => by simp [meaS, meaN, foldC]
  | n + 1 => by
    have ih := mea_more hit spr pb pb' b hb h h' n
    unfold meaS meaN at *
    simp only [foldC]
    cases hh : hit n
    · exact ih
    · cases hs : spr n
      · have := h' n hh hs
        simp only [cond_true, cond_false, Bool.and_false]
        omega
      · have := h n hh hs
        simp only [cond_true, Bool.and_true, Int.add_mul]
        omega
theorem div_next {n w : Int} (hn : 0 ≤ n) (hw : 0 < w) : (n % w + 1 < w → (n + 1) / w = n / w ∧ (n + 1) % w = n % w + 1) ∧ (n % w + 1 = w → (n + 1) / w = n / w + 1 ∧ (n + 1) % w = 0) := by
  have e := Int.mul_ediv_add_emod n w
  constructor
  · intro h
    have a : n + 1 = (n % w + 1) + n / w * w := by rw [Int.mul_comm w] at e; omega
    have b := Int.emod_nonneg n (show w ≠ 0 by omega)
    constructor
    · rw [a, Int.add_mul_ediv_right _ _ (by omega), Int.ediv_eq_zero_of_lt (by omega) h]; omega
    · conv => lhs; rw [a]
      rw [Int.add_mul_emod_self_right, Int.emod_eq_of_lt (by omega) h]
  · intro h
    have a : n + 1 = (n / w + 1) * w := by rw [Int.add_mul, Int.one_mul]; rw [Int.mul_comm w] at e; omega
    constructor
    · conv => lhs; rw [a]
      rw [Int.mul_ediv_cancel _ (by omega)]
    · rw [a]; exact Int.mul_emod_left _ _
/-- Of the cells of a box at most half, and one for each row, get drops. -/
theorem spr_half (cx cy sd w x y u v tn : Int) (hs : 1 ≤ sd) (hw : 1 ≤ w) (ht : 0 ≤ tn) : ∀ n : Nat,
    2 * meaN (fun i => inBx cx cy sd w x y u v i && sprB w tn i) n - meaN (fun i => inBx cx cy sd w x y u v i) n ≤ (n : Int) / w + 1 ∧
    (((n : Int) % w = 0 ∨ cx + (n : Int) % w * sd < x ∨ (inBx cx cy sd w x y u v n = true ∧ sprB w tn n = true)) → 2 * meaN (fun i => inBx cx cy sd w x y u v i && sprB w tn i) n - meaN (fun i => inBx cx cy sd w x y u v i) n ≤ (n : Int) / w)
  | 0 => by simp [meaN, foldC]
  | n + 1 => by
    obtain ⟨i1, i2⟩ := spr_half cx cy sd w x y u v tn hs hw ht n
    have e1 : meaN (fun i => inBx cx cy sd w x y u v i && sprB w tn i) (n + 1) = meaN (fun i => inBx cx cy sd w x y u v i && sprB w tn i) n + bif inBx cx cy sd w x y u v n && sprB w tn n then 1 else 0 := by
      unfold meaN; simp only [foldC]; cases inBx cx cy sd w x y u v n && sprB w tn n <;> simp
    have e2 : meaN (fun i => inBx cx cy sd w x y u v i) (n + 1) = meaN (fun i => inBx cx cy sd w x y u v i) n + bif inBx cx cy sd w x y u v n then 1 else 0 := by
      unfold meaN; simp only [foldC]; cases inBx cx cy sd w x y u v n <;> simp
    have p0 := Int.emod_nonneg (n : Int) (show w ≠ 0 by omega)
    have p1 := Int.emod_lt_of_pos (n : Int) (show 0 < w by omega)
    have d := div_next (show (0 : Int) ≤ n by omega) (show 0 < w by omega)
    have hle : 2 * meaN (fun i => inBx cx cy sd w x y u v i && sprB w tn i) (n + 1) - meaN (fun i => inBx cx cy sd w x y u v i) (n + 1) ≤ (n : Int) / w + 1 := by
      rw [e1, e2]
      cases hh : inBx cx cy sd w x y u v n
      · simp only [Bool.false_and, cond_false]; omega
      · cases hp : sprB w tn n
        · simp only [Bool.and_false, cond_false, cond_true]; omega
        · have := i2 (.inr (.inr ⟨hh, hp⟩))
          simp only [Bool.and_true, cond_true]; omega
    rw [show ((n + 1 : Nat) : Int) = (n : Int) + 1 by omega]
    by_cases hr : (n : Int) % w + 1 = w
    · obtain ⟨q1, q2⟩ := d.2 hr
      rw [q1]
      exact ⟨by omega, fun _ => hle⟩
    · obtain ⟨q1, q2⟩ := d.1 (by omega)
      rw [q1, q2]
      refine ⟨hle, fun hc => ?_⟩
      have sm : ((n : Int) % w + 1) * sd = (n : Int) % w * sd + sd := by rw [Int.add_mul, Int.one_mul]
      rw [e1, e2]
      rcases hc with hc | hc | ⟨h1, h2⟩
      · omega
      · -- not begun
        have := i2 (.inr (.inl (by omega)))
        have hn : inBx cx cy sd w x y u v n = false := by
          unfold inBx
          rw [decide_eq_false (show ¬ x ≤ cx + (n : Int) % w * sd by omega)]
          rfl
        rw [hn]
        simp only [Bool.false_and, cond_false]; omega
      · have hB : inBx cx cy sd w x y u v ((n : Int) + 1) = true := h1
        have hS : sprB w tn ((n : Int) + 1) = true := h2
        unfold inBx at hB
        unfold sprB at hS
        rw [q1, q2] at hB hS
        simp only [Bool.and_eq_true, decide_eq_true_eq] at hB
        rw [beq_iff_eq] at hS
        cases hh : inBx cx cy sd w x y u v n
        · have : cx + (n : Int) % w * sd < x := by
            unfold inBx at hh
            rw [decide_eq_true hB.1.2, decide_eq_true hB.2.2, decide_eq_true (show cx + (n : Int) % w * sd + sd ≤ u by omega)] at hh
            simp only [Bool.and_true, decide_eq_false_iff_not] at hh
            omega
          have := i2 (.inr (.inl this))
          simp only [Bool.false_and, cond_false]; omega
        · have hp : sprB w tn n = false := by
            unfold sprB
            rw [beq_eq_false_iff_ne]
            omega
          rw [hp]
          simp only [Bool.and_false, cond_false, cond_true]; omega
theorem cap_grn {by' z : Int} (hb : 0 ≤ by' ∧ by' ≤ 1000) (hz : grnB z = true) : grnB (capV z by') = true := by
  simp only [grnB, Bool.and_eq_true, decide_eq_true_eq] at *
  unfold capV
  split <;> omega
theorem cap_cap (b z : Int) : capV (capV z b) b = capV z b := by
  unfold capV
  by_cases hz : z < b
  · rw [if_pos hz, if_pos hz]
  · rw [if_neg hz]; split <;> rfl
theorem more_is {z b : Int} (hz : grnB z = true) (hb : 0 ≤ b ∧ b ≤ 1000) : grnB (moreV z b) = true ∧ z ≤ moreV z b ∧ moreV z b ≤ z + b := by
  simp only [grnB, Bool.and_eq_true, decide_eq_true_eq] at *
  unfold moreV
  rw [i64_in (z + b) (by omega)]
  split <;> omega
theorem same_self (cx cy sd w h : Int) (pb po : List Int) : sameB cx cy sd w h pb po cx cy sd w h pb po = true := by
  simp [sameB]
theorem scraped_true {α : Type} (cx cy sd w h : Int) (pb po : List Int) (x y u v b m tn : Int) (hb : 0 ≤ b ∧ b ≤ 1000) (hm : 0 ≤ m ∧ m ≤ 1000) (ht : 0 ≤ tn ∧ tn ≤ 1) (k : AOut → Option α) : zcW cx cy sd w h pb po x y u v b m tn k = k (b1 true) := by
  have gb : grnB b = true := by simp [grnB]; omega
  have gm : grnB m = true := by simp [grnB]; omega
  cases hB : bxvB cx cy sd w h pb po x y u v
  · unfold zcW zcT
    rw [hB]
    rfl
  have hB' := hB
  unfold bxvB at hB'
  rw [Bool.and_eq_true, Bool.and_eq_true] at hB'
  obtain ⟨⟨hI, hP⟩, hO⟩ := hB'
  have g := ice_is _ _ _ _ _ _ _ hI
  obtain ⟨c1, c2⟩ := cels_le g.fw g.fh
  have hpl := g.pl
  have pg : (zcP cx cy sd w x y u v b pb).all grnB = true := chg_all g.pg fun z hz => cap_grn hb hz
  have zg : (zcZ cx cy sd w x y u v po).all grnB = true := chg_all g.og fun z hz => rfl
  have sg : (zcS cx cy sd w x y u v tn m (zcP cx cy sd w x y u v b pb)).all grnB = true := chg_all pg fun z hz => (more_is hz hm).1
  have hl : (zcP cx cy sd w x y u v b pb).length = pb.length := chg_len ..
  have hlS : (zcS cx cy sd w x y u v tn m (zcP cx cy sd w x y u v b pb)).length = pb.length := (chg_len ..).trans hl
  have nE : zcN cx cy sd w h x y u v = meaN (fun i => inBx cx cy sd w x y u v i) (cels w h) := rfl
  have uP : zcU cx cy sd w h x y u v (zcP cx cy sd w x y u v b pb) = meaS (fun i => inBx cx cy sd w x y u v i) (zcP cx cy sd w x y u v b pb) (cels w h) := rfl
  have hI2 := ice_lists hI hl (chg_len ..) pg zg
  have hI3 := ice_lists hI ((chg_len ..).trans hl) (chg_len ..) sg zg
  have hB2 : bxvB cx cy sd w h (zcP cx cy sd w x y u v b pb) (zcZ cx cy sd w x y u v po) x y u v = true := by
    unfold bxvB; rw [hI2, hP, hO]; rfl
  have hB3 : bxvB cx cy sd w h (zcS cx cy sd w x y u v tn m (zcP cx cy sd w x y u v b pb)) (zcZ cx cy sd w x y u v po) x y u v = true := by
    unfold bxvB; rw [hI3, hP, hO]; rfl
  have s1 : zcP cx cy sd w x y u v b (zcP cx cy sd w x y u v b pb) = zcP cx cy sd w x y u v b pb := chg_chg fun z => cap_cap b z
  have s2 : zcZ cx cy sd w x y u v (zcZ cx cy sd w x y u v po) = zcZ cx cy sd w x y u v po := chg_chg fun z => rfl
  -- the numbers
  have hcl : cels w h = pb.length := by omega
  have hit_len : ∀ j : Nat, j < pb.length → (zcP cx cy sd w x y u v b pb).getD j 0 = bif inBx cx cy sd w x y u v j && true then capV (pb.getD j 0) b else pb.getD j 0 := fun j hj => chg_get _ _ _ hj
  have getP : ∀ i : Nat, inBx cx cy sd w x y u v i = true → (zcP cx cy sd w x y u v b pb).getD i 0 ≤ b := fun i hi => by
    rcases Nat.lt_or_ge i pb.length with hj | hj
    · rw [hit_len i hj, hi]
      simp only [Bool.and_true, cond_true]
      unfold capV; split <;> omega
    · rw [List.getD_eq_getElem?_getD, List.getElem?_eq_none (by omega)]
      exact hb.1
  have U1 := mea_le (fun i => inBx cx cy sd w x y u v i) (zcP cx cy sd w x y u v b pb) b getP (cels w h)
  have U2 := mea_more (fun i => inBx cx cy sd w x y u v i) (fun i => sprB w tn i) (zcP cx cy sd w x y u v b pb) (zcS cx cy sd w x y u v tn m (zcP cx cy sd w x y u v b pb)) m hm.1 (fun i hi hp => by
    rcases Nat.lt_or_ge i pb.length with hj | hj
    · have e := chg_get (fun i => inBx cx cy sd w x y u v i && sprB w tn i) (fun i => moreV i m) (zcP cx cy sd w x y u v b pb) (j := i) (by omega)
      rw [e, hi, hp]
      have := grn_at pg i
      have q := more_is (z := (zcP cx cy sd w x y u v b pb).getD i 0) (by simp only [grnB, Bool.and_eq_true, decide_eq_true_eq]; exact this) hm
      exact q.2
    · rw [List.getD_eq_getElem?_getD, List.getD_eq_getElem?_getD, List.getElem?_eq_none (by omega), List.getElem?_eq_none (by rw [chg_len]; omega)]
      simp only [Option.getD_none]; omega) (fun i hi hp => by
    rcases Nat.lt_or_ge i pb.length with hj | hj
    · have e := chg_get (fun i => inBx cx cy sd w x y u v i && sprB w tn i) (fun i => moreV i m) (zcP cx cy sd w x y u v b pb) (j := i) (by omega)
      rw [e, hi, hp]; rfl
    · rw [List.getD_eq_getElem?_getD, List.getD_eq_getElem?_getD, List.getElem?_eq_none (by omega), List.getElem?_eq_none (by rw [chg_len]; omega)]) (cels w h)
  have H := (spr_half cx cy sd w x y u v tn g.fs.1 g.fw.1 ht.1 (cels w h)).2 (.inl (by rw [c2, Int.mul_comm]; exact Int.mul_emod_left _ _))
  rw [c2, Int.mul_comm w h, Int.mul_ediv_cancel _ (show w ≠ 0 by have := g.fw; omega)] at H
  have N1 := mea_in (fun i => inBx cx cy sd w x y u v i) pg (cels w h)
  have N2 := mea_in (fun i => inBx cx cy sd w x y u v i && sprB w tn i) pg (cels w h)
  have mb := mul_in (a := zcN cx cy sd w h x y u v) (b := b) (A := 65536) (B := 1000) ⟨by have := N1.2; omega, by have := N1.2; omega⟩ ⟨by omega, by omega⟩
  have gh := g.fh
  unfold zcW zcT
  rw [hB, hB2, hB3, gb, s1, s2, same_self]
  unfold zcG
  rw [gm, decide_eq_true ht.1, decide_eq_true ht.2]
  simp only [Bool.and_self, cond_true, Bool.not_true, cond_false, bne_self_eq_false]
  rw [i64_in (zcN cx cy sd w h x y u v * b) (by omega), decide_eq_false (show ¬ zcU cx cy sd w h x y u v (zcP cx cy sd w x y u v b pb) > zcN cx cy sd w h x y u v * b by rw [nE, uP]; omega), cond_false, decide_eq_true (show zcU cx cy sd w h x y u v (zcS cx cy sd w x y u v tn m (zcP cx cy sd w x y u v b pb)) ≥ zcU cx cy sd w h x y u v (zcP cx cy sd w x y u v b pb) from U2.1), cond_true]
  have n1 := N1.2
  have n0 := N1.1
  rw [i64_in (zcN cx cy sd w h x y u v + h) (by omega), tdiv_pos (by omega), i64_in ((zcN cx cy sd w h x y u v + h) / 2) (by omega)]
  have mb2 := mul_in (a := (zcN cx cy sd w h x y u v + h) / 2) (b := m) (A := 65536) (B := 1000) ⟨by omega, by omega⟩ ⟨by omega, by omega⟩
  rw [i64_in ((zcN cx cy sd w h x y u v + h) / 2 * m) (by omega), i64_in (zcU cx cy sd w h x y u v (zcP cx cy sd w x y u v b pb) + (zcN cx cy sd w h x y u v + h) / 2 * m) (by omega)]
  have hm2 : meaN (fun i => inBx cx cy sd w x y u v i && sprB w tn i) (cels w h) * m ≤ (zcN cx cy sd w h x y u v + h) / 2 * m := Int.mul_le_mul_of_nonneg_right (by omega) hm.1
  rw [decide_eq_true (show zcU cx cy sd w h x y u v (zcS cx cy sd w x y u v tn m (zcP cx cy sd w x y u v b pb)) ≤ zcU cx cy sd w h x y u v (zcP cx cy sd w x y u v b pb) + (zcN cx cy sd w h x y u v + h) / 2 * m from Int.le_trans U2.2 (Int.add_le_add_left hm2 _))]
theorem per_in {d : Int} (hd : 0 ≤ d ∧ d ≤ 65535) : 0 ≤ (IntKind.i64.wrap d).tmod 1001 ∧ (IntKind.i64.wrap d).tmod 1001 ≤ 1000 := by
  rw [i64_in d (by omega), Int.tmod_eq_emod_of_nonneg hd.1]
  omega
theorem iscraped_true (cx cy sd w h : Int) (pb po : List Int) (x y u v dp dr : Int) (tn : Bool) (hpt : (0 ≤ dp ∧ dp ≤ 65535) ∧ 0 ≤ dr ∧ dr ≤ 65535) : evFn real tab ((twY fsIr spL).env real tab 8 8) 8 Try.f7 AOut [.agg [.int .i64 cx, .int .i64 cy, .int .i64 sd, .int .i64 w, .int .i64 h, .ro (.int .i64) pb, .ro (.int .i64) po], .agg [.int .i64 x, .int .i64 y], .agg [.int .i64 u, .int .i64 v], .int .u16 dp, .int .u16 dr, .bool tn] some = some (b1 true) := by
  refine (iscraped_text 8 0 AOut cx cy sd w h pb po x y u v dp dr tn some).trans ?_
  cases decide ((pb.length : Int) > 400)
  · cases decide ((po.length : Int) > 400)
    · cases tn
      · exact scraped_true cx cy sd w h pb po x y u v _ _ 0 (per_in hpt.1) (per_in hpt.2) (by omega) some
      · exact scraped_true cx cy sd w h pb po x y u v _ _ 1 (per_in hpt.1) (per_in hpt.2) (by omega) some
    · rfl
  · rfl
noncomputable def iscrapedF : List AVal → Option AOut := fun args => match args with
  | [.agg [.int .i64 cx, .int .i64 cy, .int .i64 sd, .int .i64 w, .int .i64 h, .ro (.int .i64) pb, .ro (.int .i64) po], .agg [.int .i64 x, .int .i64 y], .agg [.int .i64 u, .int .i64 v], .int .u16 dp, .int .u16 dr, .bool tn] => if (0 ≤ dp ∧ dp ≤ 65535) ∧ 0 ≤ dr ∧ dr ≤ 65535 then some (b1 true) else none
  | _ => none
theorem iscraped_ok : FspOk Try.prog 7 (toFsp iscrapedF) := tower_Y fsIr_ok spL_ok ⟨Try.func7, fun _ _ => by kernel_rfl⟩ (toFsp_nat _) fun args out hSm hq => by
  replace hq := toFsp_some hq
  unfold iscrapedF at hq
  split at hq
  · rename_i cx cy sd w h pb po x y u v dp dr tn
    split at hq
    · rename_i hpt
      cases hq
      exact ⟨8, 8, iscraped_true cx cy sd w h pb po x y u v dp dr tn hpt⟩
    · cases hq
  · cases hq
end Go.Proofs.Ytbcjhjidhhecaaa

/- IceKeen: its text. -/
namespace Go.Proofs.Ytbcjhjidhhecaaa
open Go.RowKit

--AT fsIb spL twY
def moreL (l : List Int) (c m : Int) : List Int := l.set c.toNat (moreV (l.getD c.toNat 0) (IntKind.i64.wrap m))
def inR {β : Type} (c : Int) (l : List Int) (r : Option β) : Option β := if 0 ≤ c ∧ c < (l.length : Int) then r else none
def keT {α : Type} (cx cy sd w h : Int) (pb po : List Int) (fl ke sw be we : Int) (x y c V B : Int) (P Q : List Int) (k : AOut → Option α) : Option α :=
  bif slwE cx cy sd w h P po fl ke sw be we x y == 0 then
    bif decide (slwV cx cy sd w h P po fl ke sw be we x y ≤ V) then
      bif slwE cx cy sd w h P Q fl ke sw be we x y == 0 then
        bif decide (slwV cx cy sd w h P Q fl ke sw be we x y ≤ slwV cx cy sd w h P po fl ke sw be we x y) then
          bif slwE cx cy sd w h P Q fl ke sw be we x y == 0 then k (b1 (decide (bdvV cx cy sd w h P Q fl ke sw be we x y ≤ B)))
          else k (b1 false)
        else k (b1 false)
      else k (b1 false)
    else k (b1 false)
  else k (b1 false)
def keR {α : Type} (cx cy sd w h : Int) (pb po : List Int) (fl ke sw be we : Int) (x y m1 m2 c V B : Int) (k : AOut → Option α) : Option α :=
  if ((List.nil (α := Int)).length + pb.length) * 8 ≤ room then if ((List.nil (α := Int)).length + po.length) * 8 ≤ room then
    inR c ((List.nil (α := Int)) ++ pb) (inR c ((List.nil (α := Int)) ++ pb) (inR c ((List.nil (α := Int)) ++ po) (inR c ((List.nil (α := Int)) ++ po)
      (keT cx cy sd w h ((List.nil (α := Int)) ++ pb) ((List.nil (α := Int)) ++ po) fl ke sw be we x y c V B (moreL ((List.nil (α := Int)) ++ pb) c m1) (moreL ((List.nil (α := Int)) ++ po) c m2) k))))
  else none else none
def keA {α : Type} (cx cy sd w h : Int) (pb po : List Int) (fl ke sw be we : Int) (x y m1 m2 : Int) (k : AOut → Option α) : Option α :=
  bif atE cx cy sd w h pb po x y != 0 then k (b1 true) else keR cx cy sd w h pb po fl ke sw be we x y m1 m2 (atV cx cy sd w h pb po x y) (slwV cx cy sd w h pb po fl ke sw be we x y) (bdvV cx cy sd w h pb po fl ke sw be we x y) k
set_option maxRecDepth 100000 in
theorem ikeen_text (N n0 : Nat) (α : Type) (cx cy sd w h : Int) (pb po : List Int) (fl ke sw be we : Int) (x y m1 m2 : Int) (k : AOut → Option α) : evFn real tab ((twY fsIb spL).env real tab N (n0 + 8)) N Try.f5 α [.agg [.int .i64 cx, .int .i64 cy, .int .i64 sd, .int .i64 w, .int .i64 h, .ro (.int .i64) pb, .ro (.int .i64) po], .agg [.int .i64 fl, .int .i64 ke, .int .i64 sw, .int .i64 be, .int .i64 we], .agg [.int .i64 x, .int .i64 y], .agg [.int .u16 m1, .int .u16 m2]] k =
    bif decide ((pb.length : Int) > 400) then k (b1 true) else bif decide ((po.length : Int) > 400) then k (b1 true)
    else bif slwE cx cy sd w h pb po fl ke sw be we x y != 0 then (bif slwV cx cy sd w h pb po fl ke sw be we x y == 0 then k (b1 (bdvV cx cy sd w h pb po fl ke sw be we x y == 0)) else k (b1 false))
    else bif slwE cx cy sd w h pb po fl ke sw be we x y != 0 then (bif slwV cx cy sd w h pb po fl ke sw be we x y == 0 then k (b1 (bdvV cx cy sd w h pb po fl ke sw be we x y == 0)) else k (b1 false))
    else bif decide (slwV cx cy sd w h pb po fl ke sw be we x y > fl) then k (b1 false)
    else bif decide (slwV cx cy sd w h pb po fl ke sw be we x y < 0) then k (b1 false)
    else bif decide (bdvV cx cy sd w h pb po fl ke sw be we x y < 0) then k (b1 false)
    else bif atE cx cy sd w h pb po x y != 0 then (bif slwV cx cy sd w h pb po fl ke sw be we x y != fl then k (b1 false) else keA cx cy sd w h pb po fl ke sw be we x y m1 m2 k)
    else keA cx cy sd w h pb po fl ke sw be we x y m1 m2 k := by kernel_rfl
/-! More pebble, more polish. -/
theorem brk_flat {fl ke sw : Int} (h : 0 ≤ fl) : brkV fl ke sw 0 0 = fl := by
  have e1 : lesV fl ke 0 = 0 := by
    unfold lesV
    rw [Int.mul_zero]
    have := near_mul (m := 0) (d := 1000) (by omega) (by omega)
    rwa [Int.zero_mul] at this
  unfold brkV
  rw [e1, Int.mul_zero, Int.sub_zero, Int.sub_zero]
  exact near_mul h (by omega)
theorem more_u {z m : Int} (hz : Gr1 z) (hm : 0 ≤ m ∧ m ≤ 65535) : Gr1 (moreV z (IntKind.i64.wrap m)) ∧ z ≤ moreV z (IntKind.i64.wrap m) := by
  unfold moreV
  have h1 := hz.1
  have h2 := hz.2
  rw [i64_in m (by omega), i64_in (z + m) (by omega)]
  split
  · exact ⟨⟨by omega, by omega⟩, by omega⟩
  · exact ⟨⟨by omega, by omega⟩, by omega⟩
theorem moreL_len (l : List Int) (c m : Int) : (moreL l c m).length = l.length := by unfold moreL; rw [List.length_set]
theorem moreL_all {l : List Int} (h : l.all grnB = true) (c : Int) {m : Int} (hm : 0 ≤ m ∧ m ≤ 65535) : (moreL l c m).all grnB = true := by
  rw [List.all_eq_true]
  intro z hz
  rcases List.mem_or_eq_of_mem_set hz with e | e
  · exact List.all_eq_true.1 h z e
  · subst e
    have := (more_u (grn_at h c.toNat) hm).1
    simp only [grnB, Bool.and_eq_true, decide_eq_true_eq]
    exact this
theorem moreL_get {l : List Int} {c m : Int} (hc : 0 ≤ c ∧ c < (l.length : Int)) : (moreL l c m).getD c.toNat 0 = moreV (l.getD c.toNat 0) (IntKind.i64.wrap m) := by
  unfold moreL
  rw [List.getD_eq_getElem?_getD, List.getElem?_set_self (by omega), Option.getD_some]
theorem keen_true {α : Type} (cx cy sd w h : Int) (pb po : List Int) (fl ke sw be we : Int) (x y m1 m2 : Int) (hI : iceB cx cy sd w h pb po = true) (hG : graB fl ke sw be we = true) (hP : plcB x y = true) (hm1 : 0 ≤ m1 ∧ m1 ≤ 65535) (hm2 : 0 ≤ m2 ∧ m2 ≤ 65535) (k : AOut → Option α) : keA cx cy sd w h pb po fl ke sw be we x y m1 m2 k = k (b1 true) := by
  have g := ice_is _ _ _ _ _ _ _ hI
  have gg := gra_is _ _ _ _ _ hG
  unfold keA
  have eE : atE cx cy sd w h pb po x y = bif inCel cx cy sd w h x y then 0 else 7 := by unfold atE; rw [hI, hP]; rfl
  have eV : atV cx cy sd w h pb po x y = bif inCel cx cy sd w h x y then celC cx cy sd w x y else 0 := by
    unfold atV; rw [hI, hP]; rfl
  rw [eE, eV]
  cases hi : inCel cx cy sd w h x y
  · rfl
  · simp only [cond_true, bne_self_eq_false, cond_false]
    obtain ⟨l0, l1, _⟩ := cel_in g.fs.1 g.fw.1 hi
    have lp := list_ok g.fw g.fh g.pl
    have lo := list_ok g.fw g.fh g.ol
    have gp := g.pl
    have go := g.ol
    unfold keR inR
    rw [if_pos (by simp [room]; omega), if_pos (by simp [room]; omega), List.nil_append, List.nil_append, if_pos ⟨l0, by omega⟩, if_pos ⟨l0, by omega⟩, if_pos ⟨l0, by omega⟩, if_pos ⟨l0, by omega⟩]
    have aP := moreL_all g.pg (celC cx cy sd w x y) hm1
    have aQ := moreL_all g.og (celC cx cy sd w x y) hm2
    have iP : iceB cx cy sd w h (moreL pb (celC cx cy sd w x y) m1) po = true := ice_lists hI (moreL_len ..) rfl aP g.og
    have iQ : iceB cx cy sd w h (moreL pb (celC cx cy sd w x y) m1) (moreL po (celC cx cy sd w x y) m2) = true := ice_lists hI (moreL_len ..) (moreL_len ..) aP aQ
    have hp : hgt (moreL pb (celC cx cy sd w x y) m1) cx cy sd w h x y = moreV (pb.getD (celC cx cy sd w x y).toNat 0) (IntKind.i64.wrap m1) := by
      unfold hgt; rw [hi, cond_true]; exact moreL_get ⟨l0, by omega⟩
    have hq : hgt (moreL po (celC cx cy sd w x y) m2) cx cy sd w h x y = moreV (po.getD (celC cx cy sd w x y).toNat 0) (IntKind.i64.wrap m2) := by
      unfold hgt; rw [hi, cond_true]; exact moreL_get ⟨l0, by omega⟩
    have hp0 : hgt pb cx cy sd w h x y = pb.getD (celC cx cy sd w x y).toNat 0 := by unfold hgt; rw [hi]; rfl
    have hq0 : hgt po cx cy sd w h x y = po.getD (celC cx cy sd w x y).toNat 0 := by unfold hgt; rw [hi]; rfl
    have up := more_u (grn_at g.pg (celC cx cy sd w x y).toNat) hm1
    have uq := more_u (grn_at g.og (celC cx cy sd w x y).toNat) hm2
    have gp0 := grn_at g.pg (celC cx cy sd w x y).toNat
    have gq0 := grn_at g.og (celC cx cy sd w x y).toNat
    unfold keT slwE slwV bdvV
    rw [hI, iP, iQ, hG, hP]
    simp only [Bool.and_self, cond_true]
    rw [hp, hq, hp0, hq0, decide_eq_true (brk_mono gg gp0 up.1 gq0 gq0 up.2 (Int.le_refl _)), decide_eq_true (brk_mono gg up.1 up.1 gq0 uq.1 (Int.le_refl _) uq.2), decide_eq_true (bnd_mono gg.be uq.1 uq.2)]
    rfl
theorem ikeen_true (cx cy sd w h : Int) (pb po : List Int) (fl ke sw be we : Int) (x y m1 m2 : Int) (hm : (0 ≤ m1 ∧ m1 ≤ 65535) ∧ 0 ≤ m2 ∧ m2 ≤ 65535) : evFn real tab ((twY fsIb spL).env real tab 8 8) 8 Try.f5 AOut [.agg [.int .i64 cx, .int .i64 cy, .int .i64 sd, .int .i64 w, .int .i64 h, .ro (.int .i64) pb, .ro (.int .i64) po], .agg [.int .i64 fl, .int .i64 ke, .int .i64 sw, .int .i64 be, .int .i64 we], .agg [.int .i64 x, .int .i64 y], .agg [.int .u16 m1, .int .u16 m2]] some = some (b1 true) := by
  refine (ikeen_text 8 0 AOut cx cy sd w h pb po fl ke sw be we x y m1 m2 some).trans ?_
  cases decide ((pb.length : Int) > 400)
  · cases decide ((po.length : Int) > 400)
    · cases hb : iceB cx cy sd w h pb po && graB fl ke sw be we && plcB x y
      · have e1 : slwE cx cy sd w h pb po fl ke sw be we x y = 2 := by unfold slwE; rw [hb]; rfl
        have e2 : slwV cx cy sd w h pb po fl ke sw be we x y = 0 := by unfold slwV; rw [hb]; rfl
        have e3 : bdvV cx cy sd w h pb po fl ke sw be we x y = 0 := by unfold bdvV; rw [hb]; rfl
        rw [e1, e2, e3]
        rfl
      · have e1 : slwE cx cy sd w h pb po fl ke sw be we x y = 0 := by unfold slwE; rw [hb]; rfl
        have hb' := hb
        simp only [Bool.and_eq_true] at hb'
        obtain ⟨⟨hI, hG⟩, hP⟩ := hb'
        have g := ice_is _ _ _ _ _ _ _ hI
        have gg := gra_is _ _ _ _ _ hG
        have e2 : slwV cx cy sd w h pb po fl ke sw be we x y = brkV fl ke sw (hgt pb cx cy sd w h x y) (hgt po cx cy sd w h x y) := by unfold slwV; rw [hb]; rfl
        have e3 : bdvV cx cy sd w h pb po fl ke sw be we x y = bndV be (hgt po cx cy sd w h x y) := by unfold bdvV; rw [hb]; rfl
        have a := brk_in gg (hgt_in g.pg cx cy sd w h x y) (hgt_in g.og cx cy sd w h x y)
        have b := bnd_in gg.be (hgt_in g.og cx cy sd w h x y)
        have key := keen_true cx cy sd w h pb po fl ke sw be we x y m1 m2 hI hG hP hm.1 hm.2 (some : AOut → Option AOut)
        rw [key, e1, decide_eq_false (show ¬ slwV cx cy sd w h pb po fl ke sw be we x y > fl by omega), decide_eq_false (show ¬ slwV cx cy sd w h pb po fl ke sw be we x y < 0 by omega), decide_eq_false (show ¬ bdvV cx cy sd w h pb po fl ke sw be we x y < 0 by omega)]
        simp only [bne_self_eq_false, cond_false]
        have eE : atE cx cy sd w h pb po x y = bif inCel cx cy sd w h x y then 0 else 7 := by unfold atE; rw [hI, hP]; rfl
        rw [eE]
        cases hi : inCel cx cy sd w h x y
        · have : slwV cx cy sd w h pb po fl ke sw be we x y = fl := by
            rw [e2]
            unfold hgt
            rw [hi]
            exact brk_flat (by have := gg.ke; omega)
          rw [this]
          simp
        · rfl
    · rfl
  · rfl
noncomputable def ikeenF : List AVal → Option AOut := fun args => match args with
  | [.agg [.int .i64 cx, .int .i64 cy, .int .i64 sd, .int .i64 w, .int .i64 h, .ro (.int .i64) pb, .ro (.int .i64) po], .agg [.int .i64 fl, .int .i64 ke, .int .i64 sw, .int .i64 be, .int .i64 we], .agg [.int .i64 x, .int .i64 y], .agg [.int .u16 m1, .int .u16 m2]] => if (0 ≤ m1 ∧ m1 ≤ 65535) ∧ 0 ≤ m2 ∧ m2 ≤ 65535 then some (b1 true) else none
  | _ => none
theorem ikeen_ok : FspOk Try.prog 5 (toFsp ikeenF) := tower_Y fsIb_ok spL_ok ⟨Try.func5, fun _ _ => by kernel_rfl⟩ (toFsp_nat _) fun args out hSm hq => by
  replace hq := toFsp_some hq
  unfold ikeenF at hq
  split at hq
  · rename_i cx cy sd w h pb po fl ke sw be we x y m1 m2
    split at hq
    · rename_i hpt
      cases hq
      exact ⟨8, 8, ikeen_true cx cy sd w h pb po fl ke sw be we x y m1 m2 hpt⟩
    · cases hq
  · cases hq
end Go.Proofs.Ytbcjhjidhhecaaa
