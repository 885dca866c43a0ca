/- Parts of the proof, in build order. -/
import Derived.Test.YtcbfmkfmdcabmaaM8
namespace Go.Proofs.Ytcbfmkfmdcabmaa
open Go.RowKit
/-! Folds and sums over places. -/
def foN (op : Int → Int → Int) (v : Nat → Int) : Nat → Int
  | 0 => v 0
  | i + 1 => op (foN op v i) (v (i + 1))
def doN (c v : Nat → Int) : Nat → Int
  | 0 => 0
  | i + 1 => doN c v i + c i * v i
def smN (c : Nat → Int) : Nat → Int
  | 0 => 0
  | i + 1 => smN c i + c i
def atL (l : List Int) (i : Nat) : Int := l.getD i 0
def mqL (c v : Nat → Int) (n : Nat) (d : Int) : Int := (d * foN mnI v (n - 1) + doN c v n) / (smN c n + d)
def mqH (c v : Nat → Int) (n : Nat) (d : Int) : Int := -((-(d * foN mxI v (n - 1) + doN c v n)) / (smN c n + d))
theorem mnV_fo (op : Int → Int → Int) (v : List Int) : ∀ i, mnV op v i = foN op (atL v) i
  | 0 => rfl
  | i + 1 => by rw [mnV, foN, mnV_fo op v i]; rfl
theorem mxI_or (a b : Int) : (a < b ∧ mxI a b = b) ∨ (b ≤ a ∧ mxI a b = a) := by unfold mxI; split <;> omega
theorem mnI_or (a b : Int) : (b < a ∧ mnI a b = b) ∨ (a ≤ b ∧ mnI a b = a) := by unfold mnI; split <;> omega
theorem mx_in {B : Int} {v : Nat → Int} {op : Int → Int → Int} (ho : op = mxI ∨ op = mnI) : ∀ n, (∀ i, i ≤ n → 0 ≤ v i ∧ v i ≤ B) → 0 ≤ foN op v n ∧ foN op v n ≤ B
  | 0, h => h 0 (Nat.le_refl _)
  | n + 1, h => by
    have h1 := mx_in ho n fun i hi => h i (by omega)
    have h2 := h (n + 1) (Nat.le_refl _)
    rw [foN]
    rcases ho with rfl | rfl
    · rcases mxI_or (foN mxI v n) (v (n + 1)) with ⟨_, e⟩ | ⟨_, e⟩ <;> rw [e] <;> omega
    · rcases mnI_or (foN mnI v n) (v (n + 1)) with ⟨_, e⟩ | ⟨_, e⟩ <;> rw [e] <;> omega
theorem mul_nn {a b c : Int} (h1 : 0 ≤ a) (h2 : 0 ≤ b) (h3 : a ≤ c) {B : Int} (h4 : b ≤ B) (h5 : 0 ≤ B) : 0 ≤ a * b ∧ a * b ≤ c * B := by
  refine ⟨Int.mul_nonneg h1 h2, ?_⟩
  have a1 := Int.mul_le_mul_of_nonneg_left h4 h1
  have a2 := Int.mul_le_mul_of_nonneg_right h3 h5
  omega
theorem do_in {c v : Nat → Int} : ∀ n, (∀ i, i < n → (0 ≤ c i ∧ c i ≤ 1000000) ∧ 0 ≤ v i ∧ v i ≤ 65536) → 0 ≤ doN c v n ∧ doN c v n ≤ 65536000000 * (n : Int)
  | 0, _ => ⟨Int.le_refl _, Int.le_refl _⟩
  | n + 1, h => by
    have h1 := do_in n fun i hi => h i (by omega)
    obtain ⟨h2, h3⟩ := h n (by omega)
    have h4 := mul_nn h2.1 h3.1 h2.2 h3.2 (show (0 : Int) ≤ 65536 by omega)
    rw [doN]
    omega
theorem sm_in {c : Nat → Int} : ∀ n, (∀ i, i < n → 0 ≤ c i ∧ c i ≤ 1000000) → 0 ≤ smN c n ∧ smN c n ≤ 1000000 * (n : Int)
  | 0, _ => ⟨Int.le_refl _, Int.le_refl _⟩
  | n + 1, h => by
    have h1 := sm_in n fun i hi => h i (by omega)
    have h2 := h n (by omega)
    rw [smN]
    omega
theorem suW_sm {c : List Int} (hc : ∀ i, i < 17 → 0 ≤ atL c i ∧ atL c i ≤ 1000000) : ∀ n, n ≤ 17 → suW c n = smN (atL c) n
  | 0, _ => rfl
  | n + 1, h => by
    have h1 := sm_in (c := atL c) n fun i hi => hc i (by omega)
    have h2 := hc n (by omega)
    rw [suW, smN, suW_sm hc n (by omega)]
    show IntKind.i64.wrap (smN (atL c) n + atL c n) = _
    rw [IntKind.wrap_i64]; omega
theorem toV_do {c v : List Int} {x : Int} (hx : 0 ≤ x ∧ x ≤ 65536000) (h : ∀ i, i < 17 → (0 ≤ atL c i ∧ atL c i ≤ 1000000) ∧ 0 ≤ atL v i ∧ atL v i ≤ 65536) : ∀ n, n ≤ 17 → toV c v x n = x + doN (atL c) (atL v) n
  | 0, _ => (Int.add_zero x).symm
  | n + 1, hn => by
    have h1 := do_in (c := atL c) (v := atL v) n fun i hi => h i (by omega)
    obtain ⟨h2, h3⟩ := h n (by omega)
    have h4 := mul_nn h2.1 h3.1 h2.2 h3.2 (show (0 : Int) ≤ 65536 by omega)
    rw [toV, doN, toV_do hx h n (by omega)]
    show IntKind.i64.wrap (x + doN (atL c) (atL v) n + IntKind.i64.wrap (atL c n * atL v n)) = _
    rw [i64_in (atL c n * atL v n) (by omega), IntKind.wrap_i64]; omega
/-! The rest's share. -/
theorem rnd_neg (neg : Bool) (n d : Int) : rnd 2 neg n d = rnd 1 (!neg) n d := by
  unfold rnd up1
  simp
theorem rnd_up {s d : Int} (hd : 0 < d) : sg (ngB s) (rnd 2 (ngB s) (ab s) d) = -((-s) / d) := by
  by_cases h0 : s = 0
  · subst h0
    unfold rnd up1 sg ngB ab
    simp
  · rw [rnd_neg, ← rnd_down hd]
    have e1 : ngB (-s) = !ngB s := by
      unfold ngB
      by_cases h : s < 0
      · rw [decide_eq_true h, decide_eq_false (by omega)]; rfl
      · rw [decide_eq_false h, decide_eq_true (by omega)]; rfl
    have e2 : ab (-s) = ab s := by unfold ab; split <;> split <;> omega
    rw [e1, e2]
    unfold sg
    cases ngB s <;> simp
theorem rnd_le {s d : Int} (hd : 0 < d) (how : Int) (neg : Bool) (h : ab s < d) : 0 ≤ rnd how neg (ab s) d ∧ rnd how neg (ab s) d ≤ 1 := by
  have h0 := ab_nn s
  unfold rnd
  rw [Int.ediv_eq_zero_of_lt h0 h]
  cases up1 how neg (ab s % d) d <;> simp
theorem sl_one {s d how : Int} (hw : how = 1 ∨ how = 2) (hd : 0 < d ∧ d ≤ 2000000000) (h : ab s < d) : slV s 1 d how = sg (ngB s) (rnd how (ngB s) (ab s) d) := by
  have h0 := ab_nn s
  have h1 := rnd_le hd.1 how (ngB s) h
  have hab : -2000000000 ≤ s ∧ s ≤ 2000000000 := by unfold ab at h; split at h <;> omega
  have hg : scG s 1 d = ngB s := by
    unfold scG
    rw [ng_pos (show (0 : Int) ≤ 1 by omega), ng_pos (show 0 ≤ d by omega)]
    unfold xorB
    cases ngB s <;> rfl
  have hP : slP s 1 d how = rnd how (ngB s) (ab s) d := by
    unfold slP
    rw [hg, ab_pos (show (0 : Int) ≤ 1 by omega), ab_pos (show 0 ≤ d by omega), Int.mul_one]
    exact rndP_small h0 hd.1 (by rw [Int.ediv_eq_zero_of_lt h0 h]; omega)
  have hok : slOk s 1 d = true := by
    unfold slOk
    rw [ok_iff.2 (by omega), rate_iff.2 (by omega), rate_iff.2 (by omega)]; rfl
  have hd0 : (d == 0) = false := by simp; omega
  have hf : fxB (rnd how (ngB s) (ab s) d) = true := by simp only [fxB, decide_eq_true_eq]; omega
  unfold slV
  rw [hok, hd0, hP, hg]
  unfold fxV
  rw [hf]
  rfl
/-! The mean's bounds. -/
structure C17 (c : List Int) : Prop where
  w : cntW c = true
  len : c.length = 17
structure V17 (v : List Int) : Prop where
  len : v.length = 17
  bd : ∀ i, i < 17 → 0 ≤ atL v i ∧ atL v i ≤ 65536
theorem C17.bd {c : List Int} (h : C17 c) : ∀ i, i < 17 → 0 ≤ atL c i ∧ atL c i ≤ 1000000 := fun i hi => by
  have h1 := h.w
  unfold cntW at h1
  simp only [Bool.and_eq_true, Bool.not_eq_true', List.any_eq_false] at h1
  have := h1.2.2 i (List.mem_range.2 (by rw [h.len]; exact hi))
  unfold cnO at this
  simpa [atL] using this
theorem mnB_17 {c v : List Int} (hc : C17 c) (hv : V17 v) {d : Int} (hd : 1 ≤ d ∧ d ≤ 1000) : mnB c v d = true := by
  unfold mnB
  have hx : ((List.range v.length).any fun i => !vaO (v.getD i 0)) = false := by
    rw [List.any_eq_false]
    intro i hi
    have := hv.bd i (by have := List.mem_range.1 hi; rw [hv.len] at this; exact this)
    unfold atL at this
    unfold vaO
    rw [decide_eq_true (by omega), decide_eq_true (by omega)]
    simp
  rw [hc.w, hx, hc.len, hv.len, decide_eq_true hd.1, decide_eq_true hd.2]
  rfl
theorem meO_17 {op : Int → Int → Int} (ho : op = mxI ∨ op = mnI) {c v : List Int} (hc : C17 c) (hv : V17 v) {d : Int} (hd : 1 ≤ d ∧ d ≤ 1000) : meO op c v d = d * foN op (atL v) 16 + doN (atL c) (atL v) 17 ∧ 0 ≤ d * foN op (atL v) 16 + doN (atL c) (atL v) 17 ∧ d * foN op (atL v) 16 + doN (atL c) (atL v) 17 ≤ 1200000000000 := by
  have h1 := mx_in ho 16 (v := atL v) (B := 65536) fun i hi => hv.bd i (by omega)
  have h2 := mul_nn (show 0 ≤ d by omega) h1.1 hd.2 h1.2 (show (0 : Int) ≤ 65536 by omega)
  have h3 := do_in (c := atL c) (v := atL v) 17 fun i hi => ⟨hc.bd i hi, hv.bd i hi⟩
  refine ⟨?_, by omega, by omega⟩
  unfold meO
  rw [mnV_fo, hv.len, hc.len, show (17 : Nat) - 1 = 16 from rfl, i64_in _ (by omega)]
  exact toV_do (by omega) (fun i hi => ⟨hc.bd i hi, hv.bd i hi⟩) 17 (Nat.le_refl _)
theorem meN_17 {c : List Int} (hc : C17 c) {d : Int} (hd : 1 ≤ d ∧ d ≤ 1000) : meN c d = smN (atL c) 17 + d ∧ 1 ≤ smN (atL c) 17 + d ∧ smN (atL c) 17 + d ≤ 17001000 := by
  have h1 := sm_in (c := atL c) 17 hc.bd
  refine ⟨?_, by omega, by omega⟩
  unfold meN
  rw [hc.len, suW_sm hc.bd 17 (Nat.le_refl _), i64_in _ (by omega)]
theorem me_lo {c v : List Int} (hc : C17 c) (hv : V17 v) {d : Int} (hd : 1 ≤ d ∧ d ≤ 1000) : meW mnI 1 c v d = mqL (atL c) (atL v) 17 d := by
  obtain ⟨e1, x0, x1⟩ := meO_17 (.inr rfl) hc hv hd
  obtain ⟨e2, n0, n1⟩ := meN_17 hc hd
  unfold meW mqL
  rw [e1, e2]
  generalize d * foN mnI (atL v) (17 - 1) + doN (atL c) (atL v) 17 = X at *
  generalize smN (atL c) 17 + d = n at *
  have m0 := Int.emod_nonneg X (show n ≠ 0 by omega)
  have m1 := Int.emod_lt_of_pos X (show 0 < n by omega)
  have q0 := Int.ediv_nonneg x0 (show 0 ≤ n by omega)
  have q1 : X / n ≤ X := Int.ediv_le_self n x0
  rw [Int.tdiv_eq_ediv_of_nonneg x0, Int.tmod_eq_emod_of_nonneg x0, sl_one (.inl rfl) (by omega) (by rw [ab_pos m0]; exact m1), rnd_down (by omega), Int.ediv_eq_zero_of_lt m0 m1, i64_in (X / n) (by omega), Int.add_zero, i64_in _ (by omega)]
theorem me_hi {c v : List Int} (hc : C17 c) (hv : V17 v) {d : Int} (hd : 1 ≤ d ∧ d ≤ 1000) : meW mxI 2 c v d = mqH (atL c) (atL v) 17 d := by
  obtain ⟨e1, x0, x1⟩ := meO_17 (.inl rfl) hc hv hd
  obtain ⟨e2, n0, n1⟩ := meN_17 hc hd
  unfold meW mqH
  rw [e1, e2]
  generalize d * foN mxI (atL v) (17 - 1) + doN (atL c) (atL v) 17 = X at *
  generalize smN (atL c) 17 + d = n at *
  have m0 := Int.emod_nonneg X (show n ≠ 0 by omega)
  have m1 := Int.emod_lt_of_pos X (show 0 < n by omega)
  have q0 := Int.ediv_nonneg x0 (show 0 ≤ n by omega)
  have q1 : X / n ≤ X := Int.ediv_le_self n x0
  have hs : (-X) / n = (-(X % n)) / n + -(X / n) := by
    rw [← Int.add_mul_ediv_right _ _ (show n ≠ 0 by omega)]
    congr 1
    have := Int.emod_add_mul_ediv X n
    have e : -(X / n) * n = -(n * (X / n)) := by rw [Int.neg_mul, Int.mul_comm]
    omega
  have r0 : -1 ≤ (-(X % n)) / n ∧ (-(X % n)) / n ≤ 0 := by
    constructor
    · exact (Int.le_ediv_iff_mul_le (show 0 < n by omega)).2 (by omega)
    · have := Int.ediv_le_ediv (show 0 < n by omega) (show -(X % n) ≤ 0 by omega)
      rw [Int.zero_ediv] at this; exact this
  rw [Int.tdiv_eq_ediv_of_nonneg x0, Int.tmod_eq_emod_of_nonneg x0, sl_one (.inr rfl) (by omega) (by rw [ab_pos m0]; exact m1), rnd_up (by omega), i64_in (X / n) (by omega), i64_in _ (by omega), hs]
  omega
theorem meH_17 {c lo hi : List Int} (hc : C17 c) (h1 : V17 lo) (h2 : V17 hi) {d : Int} (hd : 1 ≤ d ∧ d ≤ 1000) : meH c lo hi d = (mqL (atL c) (atL lo) 17 d, mqH (atL c) (atL hi) 17 d, ()) := by
  unfold meH
  rw [mnB_17 hc h1 hd, mnB_17 hc h2 hd, me_lo hc h1 hd, me_hi hc h2 hd]
  rfl
/-! What is so of quotients. -/
theorem fo_congr {op : Int → Int → Int} {v w : Nat → Int} : ∀ n, (∀ i, i ≤ n → v i = w i) → foN op v n = foN op w n
  | 0, h => h 0 (Nat.le_refl _)
  | n + 1, h => by rw [foN, foN, fo_congr n fun i hi => h i (by omega), h (n + 1) (Nat.le_refl _)]
theorem do_congr {c v w : Nat → Int} : ∀ n, (∀ i, i < n → v i = w i) → doN c v n = doN c w n
  | 0, _ => rfl
  | n + 1, h => by rw [doN, doN, do_congr n fun i hi => h i (by omega), h n (by omega)]
theorem mqL_congr {c v w : Nat → Int} {d : Int} (h : ∀ i, i < 17 → v i = w i) : mqL c v 17 d = mqL c w 17 d := by
  unfold mqL
  rw [fo_congr (17 - 1) fun i hi => h i (by omega), do_congr 17 h]
theorem mqH_congr {c v w : Nat → Int} {d : Int} (h : ∀ i, i < 17 → v i = w i) : mqH c v 17 d = mqH c w 17 d := by
  unfold mqH
  rw [fo_congr (17 - 1) fun i hi => h i (by omega), do_congr 17 h]
theorem fo_le {v w : Nat → Int} : ∀ n, (∀ i, i ≤ n → v i ≤ w i) → foN mnI v n ≤ foN mxI w n
  | 0, h => h 0 (Nat.le_refl _)
  | n + 1, h => by
    have h1 := fo_le n fun i hi => h i (by omega)
    have h2 := h (n + 1) (Nat.le_refl _)
    rw [foN, foN]
    rcases mnI_or (foN mnI v n) (v (n + 1)) with ⟨_, e⟩ | ⟨_, e⟩ <;> rcases mxI_or (foN mxI w n) (w (n + 1)) with ⟨_, e'⟩ | ⟨_, e'⟩ <;> rw [e, e'] <;> omega
theorem do_mono {c v w : Nat → Int} : ∀ n, (∀ i, i < n → 0 ≤ c i ∧ v i ≤ w i) → doN c v n ≤ doN c w n
  | 0, _ => Int.le_refl _
  | n + 1, h => by
    have h1 := do_mono n fun i hi => h i (by omega)
    have h2 := h n (by omega)
    have := Int.mul_le_mul_of_nonneg_left h2.2 h2.1
    rw [doN, doN]
    omega
theorem do_top {c v : Nat → Int} : ∀ n, (∀ i, i < n → 0 ≤ c i ∧ v i ≤ 65536) → doN c v n ≤ 65536 * smN c n
  | 0, _ => Int.le_refl _
  | n + 1, h => by
    have h1 := do_top n fun i hi => h i (by omega)
    have h2 := h n (by omega)
    have := Int.mul_le_mul_of_nonneg_left h2.2 h2.1
    rw [doN, smN]
    omega
theorem floor_ceil {X n : Int} (hn : 0 < n) : X / n ≤ -((-X) / n) := by
  have h1 := Int.ediv_mul_le X (show n ≠ 0 by omega)
  have h2 := Int.ediv_mul_le (-X) (show n ≠ 0 by omega)
  have h3 : (X / n + (-X) / n) * n ≤ 0 := by rw [Int.add_mul]; omega
  have : X / n + (-X) / n ≤ 0 := by
    rcases Int.lt_or_le 0 (X / n + (-X) / n) with h | h
    · have := Int.mul_pos h hn; omega
    · exact h
  omega
theorem mq_le {c v w : Nat → Int} {d : Int} (hc : ∀ i, i < 17 → 0 ≤ c i ∧ c i ≤ 1000000) (hd : 1 ≤ d ∧ d ≤ 1000) (h : ∀ i, i < 17 → v i ≤ w i) : mqL c v 17 d ≤ mqH c w 17 d := by
  have s := sm_in 17 hc
  have f := fo_le (17 - 1) fun i hi => h i (by omega)
  have g := do_mono 17 fun i hi => ⟨(hc i hi).1, h i hi⟩
  have m := Int.mul_le_mul_of_nonneg_left f (show 0 ≤ d by omega)
  exact Int.le_trans (Int.ediv_le_ediv (by omega) (show _ ≤ d * foN mxI w (17 - 1) + doN c w 17 by omega)) (floor_ceil (by omega))
theorem mqL_nn {c v : Nat → Int} {d : Int} (hc : ∀ i, i < 17 → 0 ≤ c i ∧ c i ≤ 1000000) (hd : 1 ≤ d ∧ d ≤ 1000) (h : ∀ i, i < 17 → 0 ≤ v i ∧ v i ≤ 65536) : 0 ≤ mqL c v 17 d := by
  have s := sm_in 17 hc
  have f := mx_in (.inr rfl) (17 - 1) (v := v) (B := 65536) fun i hi => h i (by omega)
  have g := do_in 17 fun i hi => ⟨hc i hi, h i hi⟩
  have m := Int.mul_nonneg (show 0 ≤ d by omega) f.1
  exact Int.ediv_nonneg (by omega) (by omega)
theorem mqH_top {c v : Nat → Int} {d : Int} (hc : ∀ i, i < 17 → 0 ≤ c i ∧ c i ≤ 1000000) (hd : 1 ≤ d ∧ d ≤ 1000) (h : ∀ i, i < 17 → 0 ≤ v i ∧ v i ≤ 65536) : mqH c v 17 d ≤ 65536 := by
  have s := sm_in 17 hc
  have f := mx_in (.inl rfl) (17 - 1) (v := v) (B := 65536) fun i hi => h i (by omega)
  have g := do_top 17 fun i hi => ⟨(hc i hi).1, (h i hi).2⟩
  have m := Int.mul_le_mul_of_nonneg_left f.2 (show 0 ≤ d by omega)
  unfold mqH
  have : -65536 ≤ (-(d * foN mxI v (17 - 1) + doN c v 17)) / (smN c 17 + d) := (Int.le_ediv_iff_mul_le (by omega)).2 (by omega)
  omega
end Go.Proofs.Ytcbfmkfmdcabmaa

namespace Go.Proofs.Ytcbfmkfmdcabmaa
open Go.RowKit
structure OkH (h : HpI) : Prop where
  lo : 0 ≤ h.1
  le : h.1 ≤ h.2.1
  hi : h.2.1 ≤ 65536
structure LeH (a b : HpI) : Prop where
  lo : a.1 ≤ b.1
  hi : a.2.1 ≤ b.2.1
theorem LeH.refl (a : HpI) : LeH a a := ⟨Int.le_refl _, Int.le_refl _⟩
theorem LeH.trans {a b c : HpI} (h : LeH a b) (g : LeH b c) : LeH a c := ⟨Int.le_trans h.lo g.lo, Int.le_trans h.hi g.hi⟩
def loS (F : Nat → HpI) (i : Nat) : Int := (F i).1
def hiS (F : Nat → HpI) (i : Nat) : Int := (F i).2.1
def syF (d : Int) (c : List Int) (F : Nat → HpI) : HpI := (mqL (atL c) (loS F) 17 d, mqH (atL c) (hiS F) 17 d, ())
def seqH (V : RvI → GsI → HpI) (r : RvI) (e l t : Int) (i : Nat) : HpI := hpO V r e l t ((i : Int) - 8)
theorem pn_lo (V : RvI → GsI → HpI) (r : RvI) (e l t : Int) (i : Nat) (hi : i < 17) : atL ((pnL V r e l t 17).map (·.1)) i = loS (seqH V r e l t) i := by
  unfold atL pnL
  rw [List.map_map, List.getD_eq_getElem?_getD, List.getElem?_map, List.getElem?_range hi]
  rfl
theorem pn_hi (V : RvI → GsI → HpI) (r : RvI) (e l t : Int) (i : Nat) (hi : i < 17) : atL ((pnL V r e l t 17).map (·.2.1)) i = hiS (seqH V r e l t) i := by
  unfold atL pnL
  rw [List.map_map, List.getD_eq_getElem?_getD, List.getElem?_map, List.getElem?_range hi]
  rfl
theorem cnZ_17 {c : List Int} (h : C17 c) (e : Int) : C17 (cnZ e c) := by
  unfold cnZ
  cases e == 0
  · exact h
  · show C17 (c.set 8 0)
    have hl : (c.set 8 0).length = 17 := by rw [List.length_set]; exact h.len
    refine ⟨?_, hl⟩
    have h1 := h.w
    unfold cntW at h1 ⊢
    simp only [Bool.and_eq_true, Bool.not_eq_true', List.any_eq_false, List.length_set] at h1 ⊢
    refine ⟨h1.1, h1.2.1, fun i hi => ?_⟩
    have h3 := h1.2.2 i hi
    rw [List.getD_eq_getElem?_getD, List.getElem?_set]
    split
    · split
      · unfold cnO; simp
      · unfold cnO; simp
    · rw [List.getD_eq_getElem?_getD] at h3; exact h3
theorem rv1_17 {L : List (List Int)} (h : rv1 L = true) {c : List Int} (hc : c ∈ L) : C17 c := by
  obtain ⟨i, hi, rfl⟩ := List.mem_iff_getElem.1 hc
  have := (rv1_in h).2.2 i hi
  rw [List.getD_eq_getElem?_getD, List.getElem?_eq_getElem hi] at this
  exact ⟨this.1, this.2⟩
theorem op_rv {r : RvI} (h : rvB r = true) (t : Int) : rv1 (opL r t) = true := by
  obtain ⟨h1, h2, _⟩ := rvB_in h
  unfold opL
  cases t == 0
  · exact h2
  · exact h1
theorem sy_eq {V : RvI → GsI → HpI} {r : RvI} {e l t : Int} (hd : 1 ≤ r.1 ∧ r.1 ≤ 1000) {c : List Int} (hc : C17 c) (hF : ∀ i, i < 17 → OkH (seqH V r e l t i)) : syH r.1 e (pnL V r e l t 17) c = syF r.1 (cnZ e c) (seqH V r e l t) := by
  have hl : (pnL V r e l t 17).length = 17 := pnL_len ..
  have v1 : V17 ((pnL V r e l t 17).map (·.1)) := ⟨by rw [List.length_map, hl], fun i hi => by
    rw [pn_lo V r e l t i hi]
    have := hF i hi
    exact ⟨this.lo, Int.le_trans this.le this.hi⟩⟩
  have v2 : V17 ((pnL V r e l t 17).map (·.2.1)) := ⟨by rw [List.length_map, hl], fun i hi => by
    rw [pn_hi V r e l t i hi]
    have := hF i hi
    exact ⟨Int.le_trans this.lo this.le, this.hi⟩⟩
  unfold syH syF
  rw [meH_17 (cnZ_17 hc e) v1 v2 hd, mqL_congr (pn_lo V r e l t), mqH_congr (pn_hi V r e l t)]
theorem st_eq {V : RvI → GsI → HpI} {r : RvI} {e l t : Int} (hr : rvB r = true) (hF : ∀ i, i < 17 → OkH (seqH V r e l t i)) : stH V r e l t = (opL r t).map fun c => syF r.1 (cnZ e c) (seqH V r e l t) := by
  unfold stH
  exact List.map_congr_left fun c hc => sy_eq (rvB_in hr).2.2 (rv1_17 (op_rv hr t) hc) hF
theorem syF_ok {d : Int} (hd : 1 ≤ d ∧ d ≤ 1000) {c : List Int} (hc : C17 c) {F : Nat → HpI} (hF : ∀ i, i < 17 → OkH (F i)) : OkH (syF d c F) := by
  have a : ∀ i, i < 17 → 0 ≤ loS F i ∧ loS F i ≤ 65536 := fun i hi => ⟨(hF i hi).lo, Int.le_trans (hF i hi).le (hF i hi).hi⟩
  have b : ∀ i, i < 17 → 0 ≤ hiS F i ∧ hiS F i ≤ 65536 := fun i hi => ⟨Int.le_trans (hF i hi).lo (hF i hi).le, (hF i hi).hi⟩
  exact ⟨mqL_nn hc.bd hd a, mq_le hc.bd hd fun i hi => (hF i hi).le, mqH_top hc.bd hd b⟩
/-! What is chosen. -/
abbrev H0 : HpI := (0, 0, ())
def chA (t : Int) (L : List HpI) (i : Nat) : HpI := ((chN (opT t) L i).1, (chN (opT t) L i).2, ())
theorem chO_at (t : Int) (L : List HpI) : chO t L = chA t L (L.length - 1) := rfl
theorem opT_or (t : Int) : (t = 0 ∧ opT t = mxI) ∨ (t ≠ 0 ∧ opT t = mnI) := by
  by_cases h : t = 0
  · subst h; exact .inl ⟨rfl, rfl⟩
  · exact .inr ⟨h, by unfold opT; rw [show (t == 0) = false from beq_eq_false_iff_ne.2 h]; rfl⟩
theorem chA_ok {t : Int} {L : List HpI} : ∀ i, (∀ j, j ≤ i → OkH (L.getD j H0)) → OkH (chA t L i)
  | 0, h => h 0 (Nat.le_refl _)
  | i + 1, h => by
    have h1 := chA_ok (t := t) i fun j hj => h j (by omega)
    have h2 := h (i + 1) (Nat.le_refl _)
    have e : chA t L (i + 1) = (opT t (chA t L i).1 (L.getD (i + 1) H0).1, opT t (chA t L i).2.1 (L.getD (i + 1) H0).2.1, ()) := rfl
    rw [e]
    generalize chA t L i = a at h1
    generalize L.getD (i + 1) H0 = b at h2
    obtain ⟨a1, a2, a3⟩ := h1
    obtain ⟨b1, b2, b3⟩ := h2
    rcases opT_or t with ⟨_, o⟩ | ⟨_, o⟩ <;> rw [o]
    · rcases mxI_or a.1 b.1 with ⟨_, e1⟩ | ⟨_, e1⟩ <;> rcases mxI_or a.2.1 b.2.1 with ⟨_, e2⟩ | ⟨_, e2⟩ <;> rw [e1, e2] <;> constructor <;> simp only [] <;> omega
    · rcases mnI_or a.1 b.1 with ⟨_, e1⟩ | ⟨_, e1⟩ <;> rcases mnI_or a.2.1 b.2.1 with ⟨_, e2⟩ | ⟨_, e2⟩ <;> rw [e1, e2] <;> constructor <;> simp only [] <;> omega
theorem chO_ok {t : Int} {L : List HpI} (h0 : 0 < L.length) (h : ∀ x ∈ L, OkH x) : OkH (chO t L) := by
  rw [chO_at]
  refine chA_ok _ fun j hj => ?_
  have hl : j < L.length := by omega
  rw [List.getD_eq_getElem?_getD, List.getElem?_eq_getElem hl]
  exact h _ (List.getElem_mem hl)
/-! Hopes. -/
theorem su_ok (b : Bool) : OkH (suV b, suV b, ()) := by cases b <;> constructor <;> decide
theorem op_ne {r : RvI} (hr : rvB r = true) (t : Int) : 0 < (opL r t).length := by
  have := (rv1_in (op_rv hr t)).1; omega
theorem st_ok {V : RvI → GsI → HpI} {r : RvI} {e l t : Int} (hr : rvB r = true) (hF : ∀ i, i < 17 → OkH (seqH V r e l t i)) : ∀ x ∈ stH V r e l t, OkH x := by
  rw [st_eq hr hF]
  intro x hx
  obtain ⟨c, hc, rfl⟩ := List.mem_map.1 hx
  exact syF_ok (rvB_in hr).2.2 (cnZ_17 (rv1_17 (op_rv hr t) hc) e) hF
theorem st_len (V : RvI → GsI → HpI) (r : RvI) (e l t : Int) : (stH V r e l t).length = (opL r t).length := List.length_map ..
theorem hv_ok {r : RvI} (hr : rvB r = true) : ∀ (n : Nat) (e l t : Int), e = (n : Int) → stB (e, l, t, ()) = true → OkH (hv r (e, l, t, ()))
  | n, e, l, t, he, hs => by
    have hF : ∀ i, i < 17 → OkH (seqH hv r e l t i) := fun i hi => by
      unfold seqH hpO
      by_cases h0 : e > 0
      · rw [decide_eq_true h0, cond_true]
        match n, he with
        | 0, he => omega
        | n + 1, he =>
          have hb := (stB_in hs).1
          refine hv_ok hr n _ _ _ ?_ (nx_st hs h0)
          rw [nx_e h0 hb.2]; omega
      · rw [decide_eq_false h0, cond_false]
        exact su_ok _
    have hb := (stB_in hs).1
    rw [hv_eq hb.1 hb.2]
    cases e == 0 && l != 0
    · exact chO_ok (by rw [st_len]; exact op_ne hr t) (st_ok hr hF)
    · exact su_ok _
theorem seq_ok {r : RvI} (hr : rvB r = true) {e l t : Int} (hs : stB (e, l, t, ()) = true) (i : Nat) : OkH (seqH hv r e l t i) := by
  unfold seqH hpO
  by_cases h0 : e > 0
  · rw [decide_eq_true h0, cond_true]
    have h1 := nx_st (p := (i : Int) - 8) hs h0
    exact hv_ok hr (nxE e).toNat _ _ _ (by have := (stB_in h1).1.1; exact (Int.toNat_of_nonneg this).symm) h1
  · rw [decide_eq_false h0, cond_false]
    exact su_ok _
end Go.Proofs.Ytcbfmkfmdcabmaa

namespace Go.Proofs.Ytcbfmkfmdcabmaa
open Go.RowKit
def kq (t : Int) (h : HpI) : Int := bif t == 0 then h.1 else -h.2.1
def oq (t : Int) (h : HpI) : Int := bif t == 0 then h.2.1 else -h.1
theorem beQ_kq (t : Int) (a b : HpI) : beQ t a b = decide (kq t b < kq t a) := by
  unfold beQ kq
  cases t == 0
  · show decide (a.2.1 < b.2.1) = decide (-b.2.1 < -a.2.1)
    exact decide_eq_decide.2 (by omega)
  · rfl
theorem be_max (t : Int) (O : List HpI) : ∀ i, ∀ j, j < i → kq t (O.getD j H0) ≤ kq t (O.getD (beN t O i) H0) ∧ (j < beN t O i → kq t (O.getD j H0) < kq t (O.getD (beN t O i) H0))
  | 0, j, h => absurd h (Nat.not_lt_zero _)
  | i + 1, j, h => by
    have ih := be_max t O i
    rw [beN]
    have hq := beQ_kq t (O.getD i H0) (O.getD (beN t O i) H0)
    cases hb : beQ t (O.getD i H0) (O.getD (beN t O i) H0)
    · rw [hb] at hq
      have hn := of_decide_eq_false hq.symm
      rw [cond_false]
      by_cases hj : j < i
      · exact ih j hj
      · have : j = i := by omega
        subst this
        refine ⟨by omega, fun hl => ?_⟩
        -- beN i ≤ i
        have hle : ∀ n, beN t O n ≤ n := fun n => by
          induction n with
          | zero => exact Nat.le_refl _
          | succ n ih =>
            rw [beN]
            cases beQ t (O.getD n (0, 0, ())) (O.getD (beN t O n) (0, 0, ()))
            · rw [cond_false]; omega
            · rw [cond_true]; omega
        have := hle j
        omega
    · rw [hb] at hq
      have hn := of_decide_eq_true hq.symm
      rw [cond_true]
      by_cases hj : j < i
      · have := (ih j hj).1
        exact ⟨by omega, fun _ => by omega⟩
      · have : j = i := by omega
        subst this
        exact ⟨Int.le_refl _, fun hl => absurd hl (Nat.lt_irrefl _)⟩
theorem ch_key (t : Int) (O : List HpI) : ∀ i, (∀ j, j ≤ i → kq t (O.getD j H0) ≤ kq t (chA t O i) ∧ oq t (O.getD j H0) ≤ oq t (chA t O i)) ∧ (∃ j, j ≤ i ∧ kq t (chA t O i) = kq t (O.getD j H0)) ∧ ∃ j, j ≤ i ∧ oq t (chA t O i) = oq t (O.getD j H0)
  | 0 => ⟨fun j hj => by
      have : j = 0 := by omega
      subst this
      exact ⟨Int.le_refl _, Int.le_refl _⟩, ⟨0, Nat.le_refl _, rfl⟩, ⟨0, Nat.le_refl _, rfl⟩⟩
  | i + 1 => by
    obtain ⟨h1, ⟨p, hp, e1⟩, ⟨q, hq, e2⟩⟩ := ch_key t O i
    have e : chA t O (i + 1) = (opT t (chA t O i).1 (O.getD (i + 1) H0).1, opT t (chA t O i).2.1 (O.getD (i + 1) H0).2.1, ()) := rfl
    have k1 : kq t (chA t O (i + 1)) = mxI (kq t (chA t O i)) (kq t (O.getD (i + 1) H0)) ∧ oq t (chA t O (i + 1)) = mxI (oq t (chA t O i)) (oq t (O.getD (i + 1) H0)) := by
      rw [e]
      unfold kq oq
      rcases opT_or t with ⟨rfl, o⟩ | ⟨h0, o⟩ <;> rw [o]
      · exact ⟨rfl, rfl⟩
      · rw [show (t == 0) = false from beq_eq_false_iff_ne.2 h0]
        simp only [cond_false]
        constructor
        · rcases mnI_or (chA t O i).2.1 (O.getD (i + 1) H0).2.1 with ⟨_, a⟩ | ⟨_, a⟩ <;> rcases mxI_or (-(chA t O i).2.1) (-(O.getD (i + 1) H0).2.1) with ⟨_, b⟩ | ⟨_, b⟩ <;> rw [a, b] <;> omega
        · rcases mnI_or (chA t O i).1 (O.getD (i + 1) H0).1 with ⟨_, a⟩ | ⟨_, a⟩ <;> rcases mxI_or (-(chA t O i).1) (-(O.getD (i + 1) H0).1) with ⟨_, b⟩ | ⟨_, b⟩ <;> rw [a, b] <;> omega
    rw [k1.1, k1.2]
    have m1 := mxI_or (kq t (chA t O i)) (kq t (O.getD (i + 1) H0))
    have m2 := mxI_or (oq t (chA t O i)) (oq t (O.getD (i + 1) H0))
    refine ⟨fun j hj => ?_, ?_, ?_⟩
    · by_cases hji : j ≤ i
      · have := h1 j hji
        omega
      · have : j = i + 1 := by omega
        subst this
        omega
    · rcases m1 with ⟨_, a⟩ | ⟨_, a⟩
      · exact ⟨i + 1, Nat.le_refl _, a⟩
      · exact ⟨p, by omega, a.trans e1⟩
    · rcases m2 with ⟨_, a⟩ | ⟨_, a⟩
      · exact ⟨i + 1, Nat.le_refl _, a⟩
      · exact ⟨q, by omega, a.trans e2⟩
structure Chos (t : Int) (O : List HpI) : Prop where
  lt : beX t O < O.length
  key : kq t (O.getD (beX t O) H0) = kq t (chO t O)
  oth : oq t (O.getD (beX t O) H0) ≤ oq t (chO t O)
  max : ∀ j, j < O.length → kq t (O.getD j H0) ≤ kq t (O.getD (beX t O) H0)
  fst : ∀ j, j < O.length → j < beX t O → kq t (O.getD j H0) < kq t (O.getD (beX t O) H0)
  sure : siX t O = true → ∀ j, j < O.length → j ≠ beX t O → oq t (O.getD j H0) ≤ kq t (O.getD (beX t O) H0)
  all : siX t O = true → oq t (O.getD (beX t O) H0) = oq t (chO t O)
theorem chos {t : Int} (ht : t = 0 ∨ t = 1) {O : List HpI} (h0 : 0 < O.length) (hok : ∀ j, j < O.length → OkH (O.getD j H0)) : Chos t O := by
  have hb : beX t O < O.length := beN_lt t O O.length h0 (Nat.le_refl _)
  have hm := be_max t O O.length
  obtain ⟨h1, ⟨p, hp, e1⟩, ⟨q, hq, e2⟩⟩ := ch_key t O (O.length - 1)
  have hs : siX t O = true → ∀ j, j < O.length → j ≠ beX t O → oq t (O.getD j H0) ≤ kq t (O.getD (beX t O) H0) := fun hs j hj hn => by
    unfold siX at hs
    rw [List.all_eq_true] at hs
    have := hs j (List.mem_range.2 hj)
    unfold siP at this
    rw [show (j == beX t O) = false from beq_eq_false_iff_ne.2 hn, Bool.false_or] at this
    unfold oq kq
    rcases ht with rfl | rfl
    · have := of_decide_eq_true (show decide ((O.getD j H0).2.1 ≤ (O.getD (beX 0 O) H0).1) = true from this)
      exact this
    · have := of_decide_eq_true (show decide ((O.getD j H0).1 ≥ (O.getD (beX 1 O) H0).2.1) = true from this)
      show -(O.getD j H0).1 ≤ -(O.getD (beX 1 O) H0).2.1
      omega
  have hkey : kq t (O.getD (beX t O) H0) = kq t (chO t O) := by
    have a := (h1 (beX t O) (by omega)).1
    have b := (hm p (by omega)).1
    rw [chO_at]
    have b' : kq t (O.getD p H0) ≤ kq t (O.getD (beX t O) H0) := b
    omega
  refine ⟨hb, hkey, ?_, fun j hj => (hm j hj).1, fun j hj hl => (hm j hj).2 hl, hs, fun hs' => ?_⟩
  · rw [chO_at]; exact (h1 (beX t O) (by omega)).2
  · have a := (h1 (beX t O) (by omega)).2
    rw [chO_at]
    by_cases hqb : q = beX t O
    · subst hqb; exact e2.symm
    · have b := hs hs' q (by omega) hqb
      have c := hok (beX t O) hb
      have c1 : kq t (O.getD (beX t O) H0) ≤ oq t (O.getD (beX t O) H0) := by
        have := c.le
        unfold kq oq
        cases t == 0
        · show -_ ≤ -_; omega
        · exact this
      omega
end Go.Proofs.Ytcbfmkfmdcabmaa
