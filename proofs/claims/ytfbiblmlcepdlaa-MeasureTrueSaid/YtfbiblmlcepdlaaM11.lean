/- Parts of the proof, in build order. -/
import Derived.Test.YtfbiblmlcepdlaaM10
namespace Go.Proofs.Ytfbiblmlcepdlaa
open Go.RowKit
/-! Lengths. -/
theorem dn_up {x y : Int} (hx : -6553600000 ≤ x ∧ x ≤ 6553600000) (hy : -6553600000 ≤ y ∧ y ≤ 6553600000) : lenV x y 1 = rt (sq2 x y) ∧ lenV x y 2 = rtN (sq2 x y) 2 ∧ 0 ≤ rt (sq2 x y) ∧ rt (sq2 x y) * rt (sq2 x y) ≤ sq2 x y ∧ sq2 x y ≤ rtN (sq2 x y) 2 * rtN (sq2 x y) 2 ∧ rt (sq2 x y) ≤ rtN (sq2 x y) 2 ∧ rtN (sq2 x y) 2 ≤ 70368744177664 := by
  have ax : 0 ≤ ab x ∧ ab x ≤ 6553600000 := by unfold ab; split <;> omega
  have ay : 0 ≤ ab y ∧ ab y ≤ 6553600000 := by unfold ab; split <;> omega
  have m1 : 0 ≤ ab x * ab x ∧ ab x * ab x ≤ 6553600000 * 6553600000 := ⟨Int.mul_nonneg ax.1 ax.1, Int.mul_le_mul ax.2 ax.2 ax.1 (by omega)⟩
  have m2 : 0 ≤ ab y * ab y ∧ ab y * ab y ≤ 6553600000 * 6553600000 := ⟨Int.mul_nonneg ay.1 ay.1, Int.mul_le_mul ay.2 ay.2 ay.1 (by omega)⟩
  have hs : 0 ≤ sq2 x y ∧ sq2 x y ≤ 85899345920000000000 := by unfold sq2; omega
  obtain ⟨r0, r1, r2, _⟩ := rt_spec hs.1 (by omega)
  have r3 : rt (sq2 x y) ≤ 70368744177663 := by
    refine Int.not_lt.1 fun h => ?_
    have : 70368744177664 * 70368744177664 ≤ rt (sq2 x y) * rt (sq2 x y) := Int.mul_le_mul (by omega) (by omega) (by omega) r0
    omega
  have hB1 : lenB x y 1 = true := by
    unfold lenB
    rw [ok_iff.2 (show -70368744177664 ≤ x ∧ x ≤ 70368744177664 by omega), ok_iff.2 (show -70368744177664 ≤ y ∧ y ≤ 70368744177664 by omega)]; rfl
  have hB2 : lenB x y 2 = true := by
    unfold lenB
    rw [ok_iff.2 (show -70368744177664 ≤ x ∧ x ≤ 70368744177664 by omega), ok_iff.2 (show -70368744177664 ≤ y ∧ y ≤ 70368744177664 by omega)]; rfl
  have e1 : rtN (sq2 x y) 1 = rt (sq2 x y) := Int.add_zero _
  have e2 : rtN (sq2 x y) 2 = rt (sq2 x y) + bif !(rt (sq2 x y) * rt (sq2 x y) == sq2 x y) then 1 else 0 := rfl
  have hf : ∀ n : Int, n ≤ 70368744177664 → fxV false n = n := fun n h => by
    unfold fxV fxB
    rw [decide_eq_true h]; rfl
  have e3 : rt (sq2 x y) ≤ rtN (sq2 x y) 2 ∧ rtN (sq2 x y) 2 ≤ rt (sq2 x y) + 1 ∧ sq2 x y ≤ rtN (sq2 x y) 2 * rtN (sq2 x y) 2 := by
    rw [e2]
    cases hq : rt (sq2 x y) * rt (sq2 x y) == sq2 x y
    · refine ⟨by simp only [Bool.not_false, cond_true]; omega, by simp only [Bool.not_false, cond_true]; omega, ?_⟩
      show _ ≤ (rt (sq2 x y) + 1) * (rt (sq2 x y) + 1)
      omega
    · rw [beq_iff_eq] at hq
      refine ⟨by simp only [Bool.not_true, cond_false]; omega, by simp only [Bool.not_true, cond_false]; omega, ?_⟩
      show _ ≤ (rt (sq2 x y) + 0) * (rt (sq2 x y) + 0)
      rw [Int.add_zero, hq]
      exact Int.le_refl _
  refine ⟨?_, ?_, r0, r1, e3.2.2, e3.1, by omega⟩
  · unfold lenV
    rw [hB1, cond_true, e1, hf _ (by omega)]
  · unfold lenV
    rw [hB2, cond_true, hf _ (by omega)]
theorem sq_lt {s t a b : Int} (h1 : s ≤ a * a) (h2 : b * b ≤ t) (h0 : 0 ≤ a) (h : a < b) : s < t := by
  have e1 : a * a ≤ a * b := Int.mul_le_mul_of_nonneg_left (Int.le_of_lt h) h0
  have e2 : a * b < b * b := Int.mul_lt_mul_of_pos_right h (by omega)
  omega
/-! Bounds of readings. -/
theorem bLo_le (k : Nat) (c : Int) (h0 : 0 ≤ c) (l : List RdI) (h : ∀ r ∈ l, r.1 = (k : Int) → r.lo ≤ c) : bLo l k ≤ c := by
  unfold bLo
  have : ∀ (l : List RdI) (a : Int), (∀ r ∈ l, r.1 = (k : Int) → r.lo ≤ c) → a ≤ c → l.foldl (fun a r => if r.1 = (k : Int) then max a r.lo else a) a ≤ c := by
    intro l
    induction l with
    | nil => intro a _ h; exact h
    | cons r l ih =>
      intro a hr ha
      refine ih _ (fun q hq => hr q (List.mem_cons_of_mem _ hq)) ?_
      show (if r.1 = (k : Int) then max a r.lo else a) ≤ c
      have := hr r List.mem_cons_self
      split
      · rename_i e; have := this e; omega
      · exact ha
  exact this l 0 h h0
theorem le_bHi (k : Nat) (c : Int) (h0 : c ≤ 70368744177664) (l : List RdI) (h : ∀ r ∈ l, r.1 = (k : Int) → c ≤ r.hi) : c ≤ bHi l k := by
  unfold bHi
  have : ∀ (l : List RdI) (a : Int), (∀ r ∈ l, r.1 = (k : Int) → c ≤ r.hi) → c ≤ a → c ≤ l.foldl (fun a r => if r.1 = (k : Int) then min a r.hi else a) a := by
    intro l
    induction l with
    | nil => intro a _ h; exact h
    | cons r l ih =>
      intro a hr ha
      refine ih _ (fun q hq => hr q (List.mem_cons_of_mem _ hq)) ?_
      show c ≤ (if r.1 = (k : Int) then min a r.hi else a)
      have := hr r List.mem_cons_self
      split
      · rename_i e; have := this e; omega
      · exact ha
  exact this l _ h h0
/-! The readings of the tool. -/
noncomputable def trW (l : List SnI) (a : Int) (p : List Int) (i : Nat) : Int := if 0 < trV l a p (i : Int) then trV l a p (i : Int) else 0
noncomputable def trR (l : List SnI) (a b : Int) (p : List Int) (i : Nat) : RdI := rdV a b (i : Int) (trW l a p i)
noncomputable def trN (l : List SnI) (a b : Int) (p : List Int) (i : Nat) : List RdI := (List.range i).map (trR l a b p)
noncomputable def trBad (l : List SnI) (a b : Int) (p : List Int) (i : Nat) : Bool := !rdOk a b (i : Int) (trW l a p i) || (decide ((exE l (i : Int)).lo < (trR l a b p i).lo) || decide ((exE l (i : Int)).hi > (trR l a b p i).hi))
theorem trN_succ (l : List SnI) (a b : Int) (p : List Int) (i : Nat) : trN l a b p (i + 1) = trN l a b p i ++ [trR l a b p i] := by
  unfold trN
  rw [List.range_succ, List.map_append]; rfl
theorem trN_len (l : List SnI) (a b : Int) (p : List Int) (i : Nat) : (trN l a b p i).length = i := by
  unfold trN
  rw [List.length_map, List.length_range]
theorem exL_get {l : List SnI} (h : snsB l = true) {i : Nat} (hi : i < l.length) : (exL l).getD i (0, 0, 0, ()) = exE l (i : Int) := by
  unfold exL exN
  rw [h, cond_true, List.getD_eq_getElem?_getD, List.getElem?_map, List.getElem?_range hi]; rfl
theorem exL_len {l : List SnI} (h : snsB l = true) : (exL l).length = l.length := by
  unfold exL
  rw [h, cond_true, exN_len]
theorem trL_eq {α : Type} {l : List SnI} (h : snsB l = true) (a b : Int) (p : List Int) (R : Option α) {i : Nat} (hi : i < l.length) : trL l a b p R (trN l a b p i, (i : Int), ()) = bif trBad l a b p i then finL R else some (.cont (trN l a b p (i + 1), ((i + 1 : Nat) : Int), ())) := by
  have hl := (snsB_at h).1
  have hmx : l.length ≤ maxLen := by have : maxLen = 9223372036854775807 := rfl; omega
  have e : trL l a b p R (trN l a b p i, (i : Int), ()) = trC l a b R (trN l a b p i, (i : Int), ()) (trV l a p (i : Int)) := by
    unfold trL trV
    simp only []
    rw [exL_len h, lt_len hi, cond_true, if_pos (in_len hi)]
    by_cases hp : 0 < p.length
    · rw [decide_eq_true (show (p.length : Int) > 0 by omega), cond_true, cond_true, if_neg (show ¬ (p.length : Int) = 0 by omega), if_pos ⟨Int.tmod_nonneg _ (by omega), Int.tmod_lt_of_pos _ (by omega)⟩]
    · rw [decide_eq_false (show ¬ (p.length : Int) > 0 by omega), cond_false, cond_false]
  rw [e]
  unfold trC trBad
  simp only []
  rw [Int.toNat_natCast, exL_get h hi, wrap_next hi hmx, trN_succ]
  have hr : ((trN l a b p i).length + 1) * 24 ≤ room := by rw [trN_len]; simp only [room]; omega
  show (bif (bif rdOk a b (i : Int) (trW l a p i) then (0 : Int) else 2) != 0 then finL R else bif decide ((exE l (i : Int)).lo < (trR l a b p i).lo) then finL R else bif decide ((exE l (i : Int)).hi > (trR l a b p i).hi) then finL R else if ((trN l a b p i).length + 1) * 24 ≤ room then some (.cont (trN l a b p i ++ [trR l a b p i], ((i + 1 : Nat) : Int), ())) else none) = _
  rw [if_pos hr]
  cases rdOk a b (i : Int) (trW l a p i)
  · rfl
  · cases decide ((exE l (i : Int)).lo < (trR l a b p i).lo)
    · cases decide ((exE l (i : Int)).hi > (trR l a b p i).hi) <;> rfl
    · rfl
theorem tr_run {α : Type} {l : List SnI} (h : snsB l = true) (a b : Int) (p : List Int) (R : Option α) (K : Nat → List RdI × Int × Unit → Option α) : afterL (iterL 20 (trL l a b p R) ([], 0, ())) K = bif (List.range l.length).any (trBad l a b p) then R else K 0 (trN l a b p l.length, (l.length : Int), ()) := by
  have hl := (snsB_at h).1
  refine any_loop' (f := trL l a b p R) (fun i : Nat => (trN l a b p i, (i : Int), ())) l.length (trBad l a b p) R (fun i hi => trL_eq h a b p R hi) (y := (trN l a b p l.length, (l.length : Int), ())) (b := 0) ?_ (by omega)
  unfold trL
  simp only [exL_len h, not_lt_len, cond_false]
theorem tr_good {l : List SnI} (h : snsB l = true) {a b : Int} {p : List Int} (hb : (List.range l.length).any (trBad l a b p) = false) {k : Nat} (hk : k < l.length) : (trR l a b p k).1 = (k : Int) ∧ 0 ≤ (trR l a b p k).lo ∧ (trR l a b p k).lo ≤ (exE l (k : Int)).lo ∧ (exE l (k : Int)).hi ≤ (trR l a b p k).hi ∧ (trR l a b p k).hi ≤ 70368744177664 := by
  rw [List.any_eq_false] at hb
  have := hb k (List.mem_range.2 hk)
  unfold trBad at this
  simp only [Bool.or_eq_true, Bool.not_eq_true', decide_eq_true_eq, not_or, Bool.not_eq_false] at this
  obtain ⟨g1, g2, g3⟩ := this
  have hO := g1
  unfold rdOk at hO
  simp only [Bool.and_eq_true, decide_eq_true_eq] at hO
  obtain ⟨⟨a1, a2⟩, ⟨b1, b2⟩, _, v1, v2⟩ := hO
  have eR : trR l a b p k = ((k : Int), (if 0 < IntKind.i64.wrap (trW l a p k - rdW a b (trW l a p k)) then IntKind.i64.wrap (trW l a p k - rdW a b (trW l a p k)) else 0), IntKind.i64.wrap (trW l a p k + rdW a b (trW l a p k)), ()) := by
    unfold trR rdV
    rw [g1]; rfl
  refine ⟨by rw [eR], ?_, by omega, by omega, ?_⟩
  · rw [eR]
    show 0 ≤ (if 0 < IntKind.i64.wrap (trW l a p k - rdW a b (trW l a p k)) then IntKind.i64.wrap (trW l a p k - rdW a b (trW l a p k)) else 0)
    split <;> omega
  · rw [eR]
    show IntKind.i64.wrap (trW l a p k + rdW a b (trW l a p k)) ≤ 70368744177664
    have hs : 0 ≤ slV (trW l a p k) b 1000000 2 ∧ slV (trW l a p k) b 1000000 2 ≤ 655360001 := by
      rw [sl_sc2 ⟨v1, v2⟩ ⟨b1, b2⟩]
      have hm : 0 ≤ trW l a p k * b ∧ trW l a p k * b ≤ 6553600000 * 100000 := ⟨Int.mul_nonneg v1 b1, Int.mul_le_mul v2 b2 b1 (by omega)⟩
      have e1 : ab (trW l a p k) = trW l a p k := by unfold ab; split <;> omega
      have e2 : ab b = b := by unfold ab; split <;> omega
      have hn : 0 ≤ scN (trW l a p k) b 1000000 2 ∧ scN (trW l a p k) b 1000000 2 ≤ 655360001 := by
        unfold scN rnd
        rw [e1, e2, show ab 1000000 = 1000000 from rfl]
        cases up1 2 (scG (trW l a p k) b 1000000) (trW l a p k * b % 1000000) 1000000 <;> simp only [cond_true, cond_false] <;> omega
      have hg : scG (trW l a p k) b 1000000 = false := by
        unfold scG xorB ngB
        rw [decide_eq_false (show ¬ trW l a p k < 0 by omega), decide_eq_false (show ¬ b < 0 by omega)]; rfl
      unfold scV
      cases scB (trW l a p k) b 1000000 2
      · exact ⟨by simp, by simp⟩
      · rw [cond_true, show ((1000000 : Int) == 0) = false from rfl, cond_false, hg]
        unfold fxV fxB
        rw [decide_eq_true (show scN (trW l a p k) b 1000000 2 ≤ 70368744177664 by omega)]
        exact hn
    unfold rdW
    rw [IntKind.wrap_i64, IntKind.wrap_i64]
    omega
end Go.Proofs.Ytfbiblmlcepdlaa

namespace Go.Proofs.Ytfbiblmlcepdlaa
open Go.RowKit
/-! The lengths of the stones, and their score. -/
noncomputable def tuN (l : List SnI) (i : Nat) : List Int := (List.range i).map fun k : Nat => tuD l (k : Int)
theorem tuN_succ (l : List SnI) (i : Nat) : tuN l (i + 1) = tuN l i ++ [tuD l (i : Int)] := by
  unfold tuN
  rw [List.range_succ, List.map_append]; rfl
theorem tuN_len (l : List SnI) (i : Nat) : (tuN l i).length = i := by
  unfold tuN
  rw [List.length_map, List.length_range]
theorem tuN_get (l : List SnI) {i k : Nat} (hk : k < i) : (tuN l i).getD k 0 = tuD l (k : Int) := by
  unfold tuN
  rw [List.getD_eq_getElem?_getD, List.getElem?_map, List.getElem?_range hk]; rfl
def tuK (d : List Int) (n : Int) (t : Bool) : Nat → Bool
  | 0 => t
  | j + 1 => bif tuK d n t j then true else bif decide (IntKind.i64.wrap (d.getD j 0 - n) ≤ 1) then decide (IntKind.i64.wrap (n - d.getD j 0) ≤ 1) else false
noncomputable def tuT (l : List SnI) : Nat → Bool
  | 0 => false
  | i + 1 => bif tuK (tuN l i) (tuD l (i : Int)) (tuT l i) i then true else bif decide (IntKind.i64.wrap (tuD l (i : Int) - 129368064) ≤ 1) then decide (IntKind.i64.wrap (tuD l (i : Int) - 129368064) ≥ -1) else false
theorem tuF_eq {α : Type} (d : List Int) (n : Int) (t : Bool) {i j : Nat} (hi : i ≤ 16) (hd : d.length = i) (hj : j < i) : tuF (α := α) d (i : Int) n (tuK d n t j, (j : Int), ()) = some (.cont (tuK d n t (j + 1), ((j + 1 : Nat) : Int), ())) := by
  have hmx : i ≤ maxLen := by have : maxLen = 9223372036854775807 := rfl; omega
  unfold tuF
  simp only [tuK, hd, lt_len hj, cond_true, Int.toNat_natCast, wrap_next hj hmx]
  rw [if_pos (in_len hj), if_pos (in_len hj)]
  cases tuK d n t j
  · cases decide (IntKind.i64.wrap (d.getD j 0 - n) ≤ 1) <;> rfl
  · rfl
theorem tuF_run {α : Type} (d : List Int) (n : Int) (t : Bool) {i : Nat} (hi : i ≤ 16) (hd : d.length = i) (K : Nat → Bool × Int × Unit → Option α) : afterL (iterL 20 (tuF d (i : Int) n) (t, 0, ())) K = K 2 (tuK d n t i, (i : Int), ()) :=
  count_loop (f := tuF d (i : Int) n) (fun j => (tuK d n t j, (j : Int), ())) i (fun j hj => tuF_eq d n t hi hd hj) (y := (tuK d n t i, (i : Int), ())) (b := 2) (by
    unfold tuF
    simp only [not_lt_len, cond_false]) (by omega)
theorem tuG_eq {α : Type} (l : List SnI) (hl : l.length ≤ 16) {i : Nat} (hi : i < l.length) : tuG (α := α) 20 l (tuT l i, tuN l i, (i : Int), ()) = some (.cont (tuT l (i + 1), tuN l (i + 1), ((i + 1 : Nat) : Int), ())) := by
  have hmx : l.length ≤ maxLen := by have : maxLen = 9223372036854775807 := rfl; omega
  have hr : ((tuN l i).length + 1) * 8 ≤ room := by rw [tuN_len]; simp only [room]; omega
  unfold tuG
  simp only []
  rw [lt_len hi, cond_true, if_pos (in_len hi), tuF_run _ _ _ (by omega) (tuN_len l i), if_pos rfl, wrap_next hi hmx, tuN_succ]
  simp only [tuT]
  rw [if_pos (show ((tuN l i).length + [tuD l (i : Int)].length) * 8 ≤ room from hr), if_pos (show ((tuN l i).length + [tuD l (i : Int)].length) * 8 ≤ room from hr), if_pos (show ((tuN l i).length + [tuD l (i : Int)].length) * 8 ≤ room from hr)]
  cases tuK (tuN l i) (tuD l (i : Int)) (tuT l i) i
  · cases decide (IntKind.i64.wrap (tuD l (i : Int) - 129368064) ≤ 1) <;> rfl
  · rfl
theorem tu_run {α : Type} (l : List SnI) (hl : l.length ≤ 16) (K : Nat → Bool × List Int × Int × Unit → Option α) : afterL (iterL 20 (tuG 20 l) (false, [], 0, ())) K = K 0 (tuT l l.length, tuN l l.length, (l.length : Int), ()) :=
  count_loop (f := tuG 20 l) (fun i => (tuT l i, tuN l i, (i : Int), ())) l.length (fun i hi => tuG_eq l hl hi) (y := (tuT l l.length, tuN l l.length, (l.length : Int), ())) (b := 0) (by
    unfold tuG
    simp only [not_lt_len, cond_false]) (by omega)
/-! No stone that is farther is called nearer. -/
structure NfOk (l : List SnI) (b : List RdI) : Prop where
  e1 : ∀ i k, i < l.length → k < l.length → nrE (b.getD i rdD) (b.getD k rdD) = 0
  e2 : ∀ i k, i < l.length → k < l.length → fthE (l.getD i snD).x (l.getD i snD).y (l.getD k snD).x (l.getD k snD).y = 0
  lt : ∀ i k, i < l.length → k < l.length → nrA (b.getD i rdD) (b.getD k rdD) < 0 → fthV (l.getD i snD).x (l.getD i snD).y (l.getD k snD).x (l.getD k snD).y < 0
  gt : ∀ i k, i < l.length → k < l.length → nrA (b.getD i rdD) (b.getD k rdD) > 0 → fthV (l.getD i snD).x (l.getD i snD).y (l.getD k snD).x (l.getD k snD).y > 0
theorem nfF_eq {α : Type} {l : List SnI} {b : List RdI} (hl : l.length ≤ 16) (hb : b.length = l.length) (H : NfOk l b) (R : Option (LRes (Int × Unit) α)) {i k : Nat} (hi : i < l.length) (hk : k < l.length) : nfF (α := α) l b R (i : Int) ((k : Int), ()) = some (.cont (((k + 1 : Nat) : Int), ())) := by
  have hmx : l.length ≤ maxLen := by have : maxLen = 9223372036854775807 := rfl; omega
  have e1 := H.e1 i k hi hk
  have e2 := H.e2 i k hi hk
  have e3 := H.lt i k hi hk
  have e4 := H.gt i k hi hk
  unfold nfF
  simp only []
  rw [lt_len hk, cond_true, hb, if_pos (in_len hi), if_pos (in_len hk), if_pos (in_len hi), if_pos (in_len hk), rdE_at, rdE_at, wrap_next hk hmx]
  show (bif nrE (b.getD i rdD) (b.getD k rdD) != 0 then finL R else bif fthE (l.getD i snD).x (l.getD i snD).y (l.getD k snD).x (l.getD k snD).y != 0 then finL R else
    bif decide (nrA (b.getD i rdD) (b.getD k rdD) < 0) then bif decide (fthV (l.getD i snD).x (l.getD i snD).y (l.getD k snD).x (l.getD k snD).y ≥ 0) then finL R else
      bif decide (nrA (b.getD i rdD) (b.getD k rdD) > 0) then bif decide (fthV (l.getD i snD).x (l.getD i snD).y (l.getD k snD).x (l.getD k snD).y ≤ 0) then finL R else _ else _ else
      bif decide (nrA (b.getD i rdD) (b.getD k rdD) > 0) then bif decide (fthV (l.getD i snD).x (l.getD i snD).y (l.getD k snD).x (l.getD k snD).y ≤ 0) then finL R else _ else _) = _
  rw [e1, e2, show ((0 : Int) != 0) = false from rfl, cond_false, cond_false]
  by_cases h1 : nrA (b.getD i rdD) (b.getD k rdD) < 0
  · rw [decide_eq_true h1, decide_eq_false (show ¬ nrA (b.getD i rdD) (b.getD k rdD) > 0 by omega), decide_eq_false (show ¬ fthV (l.getD i snD).x (l.getD i snD).y (l.getD k snD).x (l.getD k snD).y ≥ 0 by have := e3 h1; omega)]
    rfl
  · rw [decide_eq_false h1]
    by_cases h2 : nrA (b.getD i rdD) (b.getD k rdD) > 0
    · rw [decide_eq_true h2, decide_eq_false (show ¬ fthV (l.getD i snD).x (l.getD i snD).y (l.getD k snD).x (l.getD k snD).y ≤ 0 by have := e4 h2; omega)]
      rfl
    · rw [decide_eq_false h2]; rfl
theorem nf_run {α : Type} {l : List SnI} {b : List RdI} (hl : l.length ≤ 16) (hb : b.length = l.length) (H : NfOk l b) (R : Option α) (K : Nat → Int × Unit → Option α) : afterL (iterL 20 (nfG 20 l b R) (0, ())) K = K 2 ((l.length : Int), ()) := by
  have hmx : l.length ≤ maxLen := by have : maxLen = 9223372036854775807 := rfl; omega
  refine count_loop (f := nfG 20 l b R) (fun i => ((i : Int), ())) l.length (fun i hi => ?_) (y := ((l.length : Int), ())) (b := 2) ?_ (by omega)
  · unfold nfG
    simp only []
    rw [lt_len hi, cond_true, wrap_next hi hmx]
    refine (count_loop (f := nfF l b (finL R) (i : Int)) (fun k => ((k : Int), ())) l.length (fun k hk => nfF_eq hl hb H (finL R) hi hk) (y := ((l.length : Int), ())) (b := 4) ?_ (by omega)).trans rfl
    unfold nfF
    simp only [not_lt_len, cond_false]
  · unfold nfG
    simp only [not_lt_len, cond_false]
/-! All of it. -/
theorem sn_in {l : List SnI} (h : snsB l = true) {k : Nat} (hk : k < l.length) : (-6553600000 ≤ (l.getD k snD).x ∧ (l.getD k snD).x ≤ 6553600000) ∧ (-6553600000 ≤ (l.getD k snD).y ∧ (l.getD k snD).y ≤ 6553600000) := by
  have := (snsB_at h).2 k hk
  unfold snV at this
  simp only [Bool.and_eq_true, decide_eq_true_eq] at this
  exact ⟨this.1, this.2.1⟩
theorem ex_at (l : List SnI) (k : Nat) : exE l (k : Int) = ((k : Int), lenV (l.getD k snD).x (l.getD k snD).y 1, lenV (l.getD k snD).x (l.getD k snD).y 2, ()) := rfl
theorem tr_bds {l : List SnI} (h : snsB l = true) {a b : Int} {p : List Int} (hb : (List.range l.length).any (trBad l a b p) = false) :
    bdsE l (trN l a b p l.length) = 0 ∧ ∀ k, k < l.length → ((bndM l.length (trN l a b p l.length)).getD k rdD).lo ≤ (exE l (k : Int)).lo ∧ (exE l (k : Int)).hi ≤ ((bndM l.length (trN l a b p l.length)).getD k rdD).hi := by
  have hl := (snsB_at h).1
  have mem : ∀ r ∈ trN l a b p l.length, ∃ k, k < l.length ∧ trR l a b p k = r := fun r hr => by
    unfold trN at hr
    obtain ⟨k, hk, e⟩ := List.mem_map.1 hr
    exact ⟨k, List.mem_range.1 hk, e⟩
  have ex : ∀ k, k < l.length → 0 ≤ (exE l (k : Int)).lo ∧ (exE l (k : Int)).lo ≤ (exE l (k : Int)).hi ∧ (exE l (k : Int)).hi ≤ 70368744177664 := fun k hk => by
    obtain ⟨hx, hy⟩ := sn_in h hk
    obtain ⟨d1, d2, d3, _, _, d6, d7⟩ := dn_up hx hy
    rw [ex_at]
    show 0 ≤ lenV _ _ 1 ∧ lenV _ _ 1 ≤ lenV _ _ 2 ∧ lenV _ _ 2 ≤ _
    rw [d1, d2]
    exact ⟨d3, d6, d7⟩
  have lo : ∀ k, k < l.length → bLo (trN l a b p l.length) k ≤ (exE l (k : Int)).lo := fun k hk => bLo_le k _ (ex k hk).1 _ fun r hr e => by
    obtain ⟨j, hj, rfl⟩ := mem r hr
    obtain ⟨g1, _, g3, _, _⟩ := tr_good h hb hj
    rw [g1] at e
    have : j = k := by omega
    subst this
    exact g3
  have hi : ∀ k, k < l.length → (exE l (k : Int)).hi ≤ bHi (trN l a b p l.length) k := fun k hk => le_bHi k _ (ex k hk).2.2 _ fun r hr e => by
    obtain ⟨j, hj, rfl⟩ := mem r hr
    obtain ⟨g1, _, _, g4, _⟩ := tr_good h hb hj
    rw [g1] at e
    have : j = k := by omega
    subst this
    exact g4
  constructor
  · unfold bdsE
    rw [decide_eq_true (show (trN l a b p l.length).length ≤ 256 by rw [trN_len]; omega), cond_true, h, cond_true]
    unfold bndE
    have n1 : nB (l.length : Int) = true := by unfold nB; rw [decide_eq_true (by omega), decide_eq_true (by omega)]; rfl
    have n2 : rdsB (l.length : Int) (trN l a b p l.length) = true := by
      unfold rdsB
      rw [Bool.not_eq_true', List.any_eq_false]
      intro r hr
      obtain ⟨j, hj, rfl⟩ := mem r hr
      obtain ⟨g1, g2, g3, g4, g5⟩ := tr_good h hb hj
      have := ex j hj
      have : rgtR (l.length : Int) (trR l a b p j) = true := by
        unfold rgtR
        simp only [Bool.and_eq_true, decide_eq_true_eq]
        rw [g1]
        exact ⟨⟨by omega, by omega⟩, g2, by show (trR l a b p j).lo ≤ (trR l a b p j).hi; omega, g5⟩
      rw [this]; exact Bool.noConfusion
    have n3 : bndC l.length (trN l a b p l.length) = false := by
      unfold bndC
      rw [List.any_eq_false]
      intro k hk
      have hk' := List.mem_range.1 hk
      have h1 := lo k hk'
      have h2 := hi k hk'
      have h3 := ex k hk'
      rw [decide_eq_true_eq]
      omega
    rw [decide_eq_true (show (trN l a b p l.length).length ≤ 256 by rw [trN_len]; omega), n1, n2, Int.toNat_natCast, n3]
    rfl
  · intro k hk
    rw [bndM_get _ _ hk]
    exact ⟨lo k hk, hi k hk⟩
theorem tr_nf {l : List SnI} (h : snsB l = true) {a b : Int} {p : List Int} (hb : (List.range l.length).any (trBad l a b p) = false) : NfOk l (bndM l.length (trN l a b p l.length)) := by
  obtain ⟨hE, hB⟩ := tr_bds h hb
  obtain ⟨_, _, _, _, hg, _⟩ := no_err hE
  have hfar : ∀ i, i < l.length → ∀ k, k < l.length → fthB (l.getD i snD).x (l.getD i snD).y (l.getD k snD).x (l.getD k snD).y = true := fun i hi k hk => by
    obtain ⟨x1, y1⟩ := sn_in h hi
    obtain ⟨x2, y2⟩ := sn_in h hk
    unfold fthB
    rw [ok_iff.2 ⟨by omega, by omega⟩, ok_iff.2 ⟨by omega, by omega⟩, ok_iff.2 ⟨by omega, by omega⟩, ok_iff.2 ⟨by omega, by omega⟩]
    rfl
  have hA : ∀ i, i < l.length → ∀ k, k < l.length → nrA ((bndM l.length (trN l a b p l.length)).getD i rdD) ((bndM l.length (trN l a b p l.length)).getD k rdD) = nrR ((bndM l.length (trN l a b p l.length)).getD i rdD) ((bndM l.length (trN l a b p l.length)).getD k rdD) := fun i hi k hk => by
    unfold nrA
    rw [hg i (by rw [bndM_len]; exact hi), hg k (by rw [bndM_len]; exact hk)]; rfl
  have key : ∀ i, i < l.length → ∀ k, k < l.length → ((bndM l.length (trN l a b p l.length)).getD i rdD).hi < ((bndM l.length (trN l a b p l.length)).getD k rdD).lo → sq2 (l.getD i snD).x (l.getD i snD).y < sq2 (l.getD k snD).x (l.getD k snD).y := fun i hi k hk hlt => by
    obtain ⟨x1, y1⟩ := sn_in h hi
    obtain ⟨x2, y2⟩ := sn_in h hk
    obtain ⟨_, u2, u3, _, u5, u6, _⟩ := dn_up x1 y1
    obtain ⟨v1, _, _, v4, _, _, _⟩ := dn_up x2 y2
    have b1 := (hB i hi).2
    have b2 := (hB k hk).1
    rw [ex_at] at b1 b2
    have b1' : lenV (l.getD i snD).x (l.getD i snD).y 2 ≤ _ := b1
    have b2' : _ ≤ lenV (l.getD k snD).x (l.getD k snD).y 1 := b2
    rw [u2] at b1'
    rw [v1] at b2'
    exact sq_lt u5 v4 (by omega) (by omega)
  refine ⟨fun i k hi hk => ?_, fun i k hi hk => ?_, fun i k hi hk hn => ?_, fun i k hi hk hn => ?_⟩
  · unfold nrE
    rw [hg i (by rw [bndM_len]; exact hi), hg k (by rw [bndM_len]; exact hk)]; rfl
  · unfold fthE
    rw [hfar i hi k hk]; rfl
  · rw [hA i hi k hk] at hn
    unfold fthV cmp3
    rw [hfar i hi k hk, cond_true]
    by_cases hlt : ((bndM l.length (trN l a b p l.length)).getD i rdD).hi < ((bndM l.length (trN l a b p l.length)).getD k rdD).lo
    · rw [if_pos (key i hi k hk hlt)]; decide
    · unfold nrR at hn
      rw [decide_eq_false hlt, cond_false] at hn
      revert hn
      cases decide (((bndM l.length (trN l a b p l.length)).getD k rdD).hi < ((bndM l.length (trN l a b p l.length)).getD i rdD).lo) <;> exact fun hn => absurd hn (by decide)
  · rw [hA i hi k hk] at hn
    unfold fthV cmp3
    rw [hfar i hi k hk, cond_true]
    by_cases hlt : ((bndM l.length (trN l a b p l.length)).getD k rdD).hi < ((bndM l.length (trN l a b p l.length)).getD i rdD).lo
    · have := key k hk i hi hlt
      rw [if_neg (by omega), if_pos this]; decide
    · unfold nrR at hn
      rw [decide_eq_false hlt] at hn
      revert hn
      cases decide (((bndM l.length (trN l a b p l.length)).getD i rdD).hi < ((bndM l.length (trN l a b p l.length)).getD k rdD).lo) <;> exact fun hn => absurd hn (by decide)
theorem mtr_true (l : List SnI) (a b : Int) (p : List Int) : evFn real tab ((twY fsX0 spM8).env real tab 20 12) 20 Try.f4 AOut [.ro SnSh l, .agg [.int .i64 a, .int .i64 b], .ro (.int .i16) p] some = some (b1 true) := by
  refine (mtr_text 20 0 AOut l a b p some).trans ?_
  unfold snsE
  cases h : snsB l
  · rfl
  · rw [cond_true, show ((0 : Int) != 0) = false from rfl, cond_false]
    cases decide ((p.length : Int) > 100)
    case true => rfl
    rw [cond_false]
    refine (tr_run h a b p _ _).trans ?_
    cases hb : (List.range l.length).any (trBad l a b p)
    case true => rfl
    rw [cond_false, if_pos rfl]
    obtain ⟨hE, hB⟩ := tr_bds h hb
    obtain ⟨_, f1, f2, f3, _, _⟩ := no_err hE
    rw [hE, f1, f2, show ((0 : Int) != 0) = false from rfl, cond_false, cond_false]
    refine (nf_run f3 (bndM_len _ _) (tr_nf h hb) _ _).trans ?_
    rw [if_pos rfl]
    refine (tu_run l f3 _).trans ?_
    rw [if_pos rfl]
    have hd : dsB l (tuN l l.length) = true := by
      unfold dsB
      rw [h, tuN_len, decide_eq_true rfl]; rfl
    have hin : dIn l (bndM l.length (trN l a b p l.length)) (tuN l l.length) := fun k hk => by
      rw [tuN_get l hk]
      obtain ⟨g1, g2⟩ := hB k hk
      obtain ⟨hx, hy⟩ := sn_in h hk
      obtain ⟨d1, d2, _, _, _, d6, _⟩ := dn_up hx hy
      rw [ex_at] at g1 g2
      have g1' : _ ≤ lenV (l.getD k snD).x (l.getD k snD).y 1 := g1
      have g2' : lenV (l.getD k snD).x (l.getD k snD).y 2 ≤ _ := g2
      show _ ≤ lenV (l.getD k snD).x (l.getD k snD).y 2 ∧ lenV (l.getD k snD).x (l.getD k snD).y 2 ≤ _
      rw [d1] at g1'
      rw [d2] at g2' ⊢
      exact ⟨by omega, g2'⟩
    have hs : haB (scR l (trN l a b p l.length)) ((dsS l (tuN l l.length)).1, (dsS l (tuN l l.length)).2.1, ()) = true := by
      rw [haB_iff]
      unfold scR
      rw [hE]
      exact score_in hin f3
    rw [hd, hs, cond_true]
    cases tuT l l.length <;> rfl
def mtrF : List AVal → Option AOut
  | [.ro (.recd (.cons (.int .i64) (.cons (.int .i64) (.cons (.recd (.cons (.int .i64) (.cons (.int .i64) .nil))) .nil)))) _, .agg [.int .i64 _, .int .i64 _], .ro (.int .i16) _] => some (b1 true)
  | _ => none
theorem mtr_ok : FspOk Try.prog 4 (toFsp mtrF) := tower_Y fsX0_ok spM8_ok ⟨Try.func4, fun _ _ => by kernel_rfl⟩ (toFsp_nat _) fun args out hSm hq => by
  have h := toFsp_some hq
  unfold mtrF at h
  split at h
  · rename_i l a b p
    exact ⟨20, 12, (mtr_true l a b p).trans h⟩
  · cases h
end Go.Proofs.Ytfbiblmlcepdlaa
