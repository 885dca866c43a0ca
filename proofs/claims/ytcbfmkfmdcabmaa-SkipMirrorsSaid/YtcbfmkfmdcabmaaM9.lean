/- Parts of the proof, in build order. -/
import Derived.Test.YtcbfmkfmdcabmaaM8
namespace Go.Proofs.Ytcbfmkfmdcabmaa
open Go.RowKit
/-! Folds and sums over places. -/
def foN (op : Int → Int → Int) (v : Nat → Int) : Nat → Int
  | 0 => v 0
  | i + 1 => op (foN op v i) (v (i + 1))
def doN (c v : Nat → Int) : Nat → Int
  | 0 => 0
  | i + 1 => doN c v i + c i * v i
def smN (c : Nat → Int) : Nat → Int
  | 0 => 0
  | i + 1 => smN c i + c i
def atL (l : List Int) (i : Nat) : Int := l.getD i 0
def mqL (c v : Nat → Int) (n : Nat) (d : Int) : Int := (d * foN mnI v (n - 1) + doN c v n) / (smN c n + d)
def mqH (c v : Nat → Int) (n : Nat) (d : Int) : Int := -((-(d * foN mxI v (n - 1) + doN c v n)) / (smN c n + d))
theorem mnV_fo (op : Int → Int → Int) (v : List Int) : ∀ i, mnV op v i = foN op (atL v) i
  | 0 => rfl
  | i + 1 => by rw [mnV, foN, mnV_fo op v i]; rfl
theorem mxI_or (a b : Int) : (a < b ∧ mxI a b = b) ∨ (b ≤ a ∧ mxI a b = a) := by unfold mxI; split <;> omega
theorem mnI_or (a b : Int) : (b < a ∧ mnI a b = b) ∨ (a ≤ b ∧ mnI a b = a) := by unfold mnI; split <;> omega
theorem mx_in {B : Int} {v : Nat → Int} {op : Int → Int → Int} (ho : op = mxI ∨ op = mnI) : ∀ n, (∀ i, i ≤ n → 0 ≤ v i ∧ v i ≤ B) → 0 ≤ foN op v n ∧ foN op v n ≤ B
  | 0, h => h 0 (Nat.le_refl _)
  | n + 1, h => by
    have h1 := mx_in ho n fun i hi => h i (by omega)
    have h2 := h (n + 1) (Nat.le_refl _)
    rw [foN]
    rcases ho with rfl | rfl
    · rcases mxI_or (foN mxI v n) (v (n + 1)) with ⟨_, e⟩ | ⟨_, e⟩ <;> rw [e] <;> omega
    · rcases mnI_or (foN mnI v n) (v (n + 1)) with ⟨_, e⟩ | ⟨_, e⟩ <;> rw [e] <;> omega
theorem mul_nn {a b c : Int} (h1 : 0 ≤ a) (h2 : 0 ≤ b) (h3 : a ≤ c) {B : Int} (h4 : b ≤ B) (h5 : 0 ≤ B) : 0 ≤ a * b ∧ a * b ≤ c * B := by
  refine ⟨Int.mul_nonneg h1 h2, ?_⟩
  have a1 := Int.mul_le_mul_of_nonneg_left h4 h1
  have a2 := Int.mul_le_mul_of_nonneg_right h3 h5
  omega
theorem do_in {c v : Nat → Int} : ∀ n, (∀ i, i < n → (0 ≤ c i ∧ c i ≤ 1000000) ∧ 0 ≤ v i ∧ v i ≤ 65536) → 0 ≤ doN c v n ∧ doN c v n ≤ 65536000000 * (n : Int)
  | 0, _ => ⟨Int.le_refl _, Int.le_refl _⟩
  | n + 1, h => by
    have h1 := do_in n fun i hi => h i (by omega)
    obtain ⟨h2, h3⟩ := h n (by omega)
    have h4 := mul_nn h2.1 h3.1 h2.2 h3.2 (show (0 : Int) ≤ 65536 by omega)
    rw [doN]
    omega
theorem sm_in {c : Nat → Int} : ∀ n, (∀ i, i < n → 0 ≤ c i ∧ c i ≤ 1000000) → 0 ≤ smN c n ∧ smN c n ≤ 1000000 * (n : Int)
  | 0, _ => ⟨Int.le_refl _, Int.le_refl _⟩
  | n + 1, h => by
    have h1 := sm_in n fun i hi => h i (by omega)
    have h2 := h n (by omega)
    rw [smN]
    omega
theorem suW_sm {c : List Int} (hc : ∀ i, i < 17 → 0 ≤ atL c i ∧ atL c i ≤ 1000000) : ∀ n, n ≤ 17 → suW c n = smN (atL c) n
  | 0, _ => rfl
  | n + 1, h => by
    have h1 := sm_in (c := atL c) n fun i hi => hc i (by omega)
    have h2 := hc n (by omega)
    rw [suW, smN, suW_sm hc n (by omega)]
    show IntKind.i64.wrap (smN (atL c) n + atL c n) = _
    rw [IntKind.wrap_i64]; omega
theorem toV_do {c v : List Int} {x : Int} (hx : 0 ≤ x ∧ x ≤ 65536000) (h : ∀ i, i < 17 → (0 ≤ atL c i ∧ atL c i ≤ 1000000) ∧ 0 ≤ atL v i ∧ atL v i ≤ 65536) : ∀ n, n ≤ 17 → toV c v x n = x + doN (atL c) (atL v) n
  | 0, _ => (Int.add_zero x).symm
  | n + 1, hn => by
    have h1 := do_in (c := atL c) (v := atL v) n fun i hi => h i (by omega)
    obtain ⟨h2, h3⟩ := h n (by omega)
    have h4 := mul_nn h2.1 h3.1 h2.2 h3.2 (show (0 : Int) ≤ 65536 by omega)
    rw [toV, doN, toV_do hx h n (by omega)]
    show IntKind.i64.wrap (x + doN (atL c) (atL v) n + IntKind.i64.wrap (atL c n * atL v n)) = _
    rw [i64_in (atL c n * atL v n) (by omega), IntKind.wrap_i64]; omega
/-! The rest's share. -/
theorem rnd_neg (neg : Bool) (n d : Int) : rnd 2 neg n d = rnd 1 (!neg) n d := by
  unfold rnd up1
  simp
theorem rnd_up {s d : Int} (hd : 0 < d) : sg (ngB s) (rnd 2 (ngB s) (ab s) d) = -((-s) / d) := by
  by_cases h0 : s = 0
  · subst h0
    unfold rnd up1 sg ngB ab
    simp
  · rw [rnd_neg, ← rnd_down hd]
    have e1 : ngB (-s) = !ngB s := by
      unfold ngB
      by_cases h : s < 0
      · rw [decide_eq_true h, decide_eq_false (by omega)]; rfl
      · rw [decide_eq_false h, decide_eq_true (by omega)]; rfl
    have e2 : ab (-s) = ab s := by unfold ab; split <;> split <;> omega
    rw [e1, e2]
    unfold sg
    cases ngB s <;> simp
theorem rnd_le {s d : Int} (hd : 0 < d) (how : Int) (neg : Bool) (h : ab s < d) : 0 ≤ rnd how neg (ab s) d ∧ rnd how neg (ab s) d ≤ 1 := by
  have h0 := ab_nn s
  unfold rnd
  rw [Int.ediv_eq_zero_of_lt h0 h]
  cases up1 how neg (ab s % d) d <;> simp
theorem sl_one {s d how : Int} (hw : how = 1 ∨ how = 2) (hd : 0 < d ∧ d ≤ 2000000000) (h : ab s < d) : slV s 1 d how = sg (ngB s) (rnd how (ngB s) (ab s) d) := by
  have h0 := ab_nn s
  have h1 := rnd_le hd.1 how (ngB s) h
  have hab : -2000000000 ≤ s ∧ s ≤ 2000000000 := by unfold ab at h; split at h <;> omega
  have hg : scG s 1 d = ngB s := by
    unfold scG
    rw [ng_pos (show (0 : Int) ≤ 1 by omega), ng_pos (show 0 ≤ d by omega)]
    unfold xorB
    cases ngB s <;> rfl
  have hP : slP s 1 d how = rnd how (ngB s) (ab s) d := by
    unfold slP
    rw [hg, ab_pos (show (0 : Int) ≤ 1 by omega), ab_pos (show 0 ≤ d by omega), Int.mul_one]
    exact rndP_small h0 hd.1 (by rw [Int.ediv_eq_zero_of_lt h0 h]; omega)
  have hok : slOk s 1 d = true := by
    unfold slOk
    rw [ok_iff.2 (by omega), rate_iff.2 (by omega), rate_iff.2 (by omega)]; rfl
  have hd0 : (d == 0) = false := by simp; omega
  have hf : fxB (rnd how (ngB s) (ab s) d) = true := by simp only [fxB, decide_eq_true_eq]; omega
  unfold slV
  rw [hok, hd0, hP, hg]
  unfold fxV
  rw [hf]
  rfl
/-! The mean's bounds. -/
structure C17 (c : List Int) : Prop where
  w : cntW c = true
  len : c.length = 17
structure V17 (v : List Int) : Prop where
  len : v.length = 17
  bd : ∀ i, i < 17 → 0 ≤ atL v i ∧ atL v i ≤ 65536
theorem C17.bd {c : List Int} (h : C17 c) : ∀ i, i < 17 → 0 ≤ atL c i ∧ atL c i ≤ 1000000 := fun i hi => by
  have h1 := h.w
  unfold cntW at h1
  simp only [Bool.and_eq_true, Bool.not_eq_true', List.any_eq_false] at h1
  have := h1.2.2 i (List.mem_range.2 (by rw [h.len]; exact hi))
  unfold cnO at this
  simpa [atL] using this
theorem mnB_17 {c v : List Int} (hc : C17 c) (hv : V17 v) {d : Int} (hd : 1 ≤ d ∧ d ≤ 1000) : mnB c v d = true := by
  unfold mnB
  have hx : ((List.range v.length).any fun i => !vaO (v.getD i 0)) = false := by
    rw [List.any_eq_false]
    intro i hi
    have := hv.bd i (by have := List.mem_range.1 hi; rw [hv.len] at this; exact this)
    unfold atL at this
    unfold vaO
    rw [decide_eq_true (by omega), decide_eq_true (by omega)]
    simp
  rw [hc.w, hx, hc.len, hv.len, decide_eq_true hd.1, decide_eq_true hd.2]
  rfl
theorem meO_17 {op : Int → Int → Int} (ho : op = mxI ∨ op = mnI) {c v : List Int} (hc : C17 c) (hv : V17 v) {d : Int} (hd : 1 ≤ d ∧ d ≤ 1000) : meO op c v d = d * foN op (atL v) 16 + doN (atL c) (atL v) 17 ∧ 0 ≤ d * foN op (atL v) 16 + doN (atL c) (atL v) 17 ∧ d * foN op (atL v) 16 + doN (atL c) (atL v) 17 ≤ 1200000000000 := by
  have h1 := mx_in ho 16 (v := atL v) (B := 65536) fun i hi => hv.bd i (by omega)
  have h2 := mul_nn (show 0 ≤ d by omega) h1.1 hd.2 h1.2 (show (0 : Int) ≤ 65536 by omega)
  have h3 := do_in (c := atL c) (v := atL v) 17 fun i hi => ⟨hc.bd i hi, hv.bd i hi⟩
  refine ⟨?_, by omega, by omega⟩
  unfold meO
  rw [mnV_fo, hv.len, hc.len, show (17 : Nat) - 1 = 16 from rfl, i64_in _ (by omega)]
  exact toV_do (by omega) (fun i hi => ⟨hc.bd i hi, hv.bd i hi⟩) 17 (Nat.le_refl _)
theorem meN_17 {c : List Int} (hc : C17 c) {d : Int} (hd : 1 ≤ d ∧ d ≤ 1000) : meN c d = smN (atL c) 17 + d ∧ 1 ≤ smN (atL c) 17 + d ∧ smN (atL c) 17 + d ≤ 17001000 := by
  have h1 := sm_in (c := atL c) 17 hc.bd
  refine ⟨?_, by omega, by omega⟩
  unfold meN
  rw [hc.len, suW_sm hc.bd 17 (Nat.le_refl _), i64_in _ (by omega)]
theorem me_lo {c v : List Int} (hc : C17 c) (hv : V17 v) {d : Int} (hd : 1 ≤ d ∧ d ≤ 1000) : meW mnI 1 c v d = mqL (atL c) (atL v) 17 d := by
  obtain ⟨e1, x0, x1⟩ := meO_17 (.inr rfl) hc hv hd
  obtain ⟨e2, n0, n1⟩ := meN_17 hc hd
  unfold meW mqL
  rw [e1, e2]
  generalize d * foN mnI (atL v) (17 - 1) + doN (atL c) (atL v) 17 = X at *
  generalize smN (atL c) 17 + d = n at *
  have m0 := Int.emod_nonneg X (show n ≠ 0 by omega)
  have m1 := Int.emod_lt_of_pos X (show 0 < n by omega)
  have q0 := Int.ediv_nonneg x0 (show 0 ≤ n by omega)
  have q1 : X / n ≤ X := Int.ediv_le_self n x0
  rw [Int.tdiv_eq_ediv_of_nonneg x0, Int.tmod_eq_emod_of_nonneg x0, sl_one (.inl rfl) (by omega) (by rw [ab_pos m0]; exact m1), rnd_down (by omega), Int.ediv_eq_zero_of_lt m0 m1, i64_in (X / n) (by omega), Int.add_zero, i64_in _ (by omega)]
theorem me_hi {c v : List Int} (hc : C17 c) (hv : V17 v) {d : Int} (hd : 1 ≤ d ∧ d ≤ 1000) : meW mxI 2 c v d = mqH (atL c) (atL v) 17 d := by
  obtain ⟨e1, x0, x1⟩ := meO_17 (.inl rfl) hc hv hd
  obtain ⟨e2, n0, n1⟩ := meN_17 hc hd
  unfold meW mqH
  rw [e1, e2]
  generalize d * foN mxI (atL v) (17 - 1) + doN (atL c) (atL v) 17 = X at *
  generalize smN (atL c) 17 + d = n at *
  have m0 := Int.emod_nonneg X (show n ≠ 0 by omega)
  have m1 := Int.emod_lt_of_pos X (show 0 < n by omega)
  have q0 := Int.ediv_nonneg x0 (show 0 ≤ n by omega)
  have q1 : X / n ≤ X := Int.ediv_le_self n x0
  have hs : (-X) / n = (-(X % n)) / n + -(X / n) := by
    rw [← Int.add_mul_ediv_right _ _ (show n ≠ 0 by omega)]
    congr 1
    have := Int.emod_add_mul_ediv X n
    have e : -(X / n) * n = -(n * (X / n)) := by rw [Int.neg_mul, Int.mul_comm]
    omega
  have r0 : -1 ≤ (-(X % n)) / n ∧ (-(X % n)) / n ≤ 0 := by
    constructor
    · exact (Int.le_ediv_iff_mul_le (show 0 < n by omega)).2 (by omega)
    · have := Int.ediv_le_ediv (show 0 < n by omega) (show -(X % n) ≤ 0 by omega)
      rw [Int.zero_ediv] at this; exact this
  rw [Int.tdiv_eq_ediv_of_nonneg x0, Int.tmod_eq_emod_of_nonneg x0, sl_one (.inr rfl) (by omega) (by rw [ab_pos m0]; exact m1), rnd_up (by omega), i64_in (X / n) (by omega), i64_in _ (by omega), hs]
  omega
theorem meH_17 {c lo hi : List Int} (hc : C17 c) (h1 : V17 lo) (h2 : V17 hi) {d : Int} (hd : 1 ≤ d ∧ d ≤ 1000) : meH c lo hi d = (mqL (atL c) (atL lo) 17 d, mqH (atL c) (atL hi) 17 d, ()) := by
  unfold meH
  rw [mnB_17 hc h1 hd, mnB_17 hc h2 hd, me_lo hc h1 hd, me_hi hc h2 hd]
  rfl
/-! What is so of quotients. -/
theorem fo_congr {op : Int → Int → Int} {v w : Nat → Int} : ∀ n, (∀ i, i ≤ n → v i = w i) → foN op v n = foN op w n
  | 0, h => h 0 (Nat.le_refl _)
  | n + 1, h => by rw [foN, foN, fo_congr n fun i hi => h i (by omega), h (n + 1) (Nat.le_refl _)]
theorem do_congr {c v w : Nat → Int} : ∀ n, (∀ i, i < n → v i = w i) → doN c v n = doN c w n
  | 0, _ => rfl
  | n + 1, h => by rw [doN, doN, do_congr n fun i hi => h i (by omega), h n (by omega)]
theorem mqL_congr {c v w : Nat → Int} {d : Int} (h : ∀ i, i < 17 → v i = w i) : mqL c v 17 d = mqL c w 17 d := by
  unfold mqL
  rw [fo_congr (17 - 1) fun i hi => h i (by omega), do_congr 17 h]
theorem mqH_congr {c v w : Nat → Int} {d : Int} (h : ∀ i, i < 17 → v i = w i) : mqH c v 17 d = mqH c w 17 d := by
  unfold mqH
  rw [fo_congr (17 - 1) fun i hi => h i (by omega), do_congr 17 h]
theorem fo_le {v w : Nat → Int} : ∀ n, (∀ i, i ≤ n → v i ≤ w i) → foN mnI v n ≤ foN mxI w n
  | 0, h => h 0 (Nat.le_refl _)
  | n + 1, h => by
    have h1 := fo_le n fun i hi => h i (by omega)
    have h2 := h (n + 1) (Nat.le_refl _)
    rw [foN, foN]
    rcases mnI_or (foN mnI v n) (v (n + 1)) with ⟨_, e⟩ | ⟨_, e⟩ <;> rcases mxI_or (foN mxI w n) (w (n + 1)) with ⟨_, e'⟩ | ⟨_, e'⟩ <;> rw [e, e'] <;> omega
theorem do_mono {c v w : Nat → Int} : ∀ n, (∀ i, i < n → 0 ≤ c i ∧ v i ≤ w i) → doN c v n ≤ doN c w n
  | 0, _ => Int.le_refl _
  | n + 1, h => by
    have h1 := do_mono n fun i hi => h i (by omega)
    have h2 := h n (by omega)
    have := Int.mul_le_mul_of_nonneg_left h2.2 h2.1
    rw [doN, doN]
    omega
theorem do_top {c v : Nat → Int} : ∀ n, (∀ i, i < n → 0 ≤ c i ∧ v i ≤ 65536) → doN c v n ≤ 65536 * smN c n
  | 0, _ => Int.le_refl _
  | n + 1, h => by
    have h1 := do_top n fun i hi => h i (by omega)
    have h2 := h n (by omega)
    have := Int.mul_le_mul_of_nonneg_left h2.2 h2.1
    rw [doN, smN]
    omega
theorem floor_ceil {X n : Int} (hn : 0 < n) : X / n ≤ -((-X) / n) := by
  have h1 := Int.ediv_mul_le X (show n ≠ 0 by omega)
  have h2 := Int.ediv_mul_le (-X) (show n ≠ 0 by omega)
  have h3 : (X / n + (-X) / n) * n ≤ 0 := by rw [Int.add_mul]; omega
  have : X / n + (-X) / n ≤ 0 := by
    rcases Int.lt_or_le 0 (X / n + (-X) / n) with h | h
    · have := Int.mul_pos h hn; omega
    · exact h
  omega
theorem mq_le {c v w : Nat → Int} {d : Int} (hc : ∀ i, i < 17 → 0 ≤ c i ∧ c i ≤ 1000000) (hd : 1 ≤ d ∧ d ≤ 1000) (h : ∀ i, i < 17 → v i ≤ w i) : mqL c v 17 d ≤ mqH c w 17 d := by
  have s := sm_in 17 hc
  have f := fo_le (17 - 1) fun i hi => h i (by omega)
  have g := do_mono 17 fun i hi => ⟨(hc i hi).1, h i hi⟩
  have m := Int.mul_le_mul_of_nonneg_left f (show 0 ≤ d by omega)
  exact Int.le_trans (Int.ediv_le_ediv (by omega) (show _ ≤ d * foN mxI w (17 - 1) + doN c w 17 by omega)) (floor_ceil (by omega))
theorem mqL_nn {c v : Nat → Int} {d : Int} (hc : ∀ i, i < 17 → 0 ≤ c i ∧ c i ≤ 1000000) (hd : 1 ≤ d ∧ d ≤ 1000) (h : ∀ i, i < 17 → 0 ≤ v i ∧ v i ≤ 65536) : 0 ≤ mqL c v 17 d := by
  have s := sm_in 17 hc
  have f := mx_in (.inr rfl) (17 - 1) (v := v) (B := 65536) fun i hi => h i (by omega)
  have g := do_in 17 fun i hi => ⟨hc i hi, h i hi⟩
  have m := Int.mul_nonneg (show 0 ≤ d by omega) f.1
  exact Int.ediv_nonneg (by omega) (by omega)
theorem mqH_top {c v : Nat → Int} {d : Int} (hc : ∀ i, i < 17 → 0 ≤ c i ∧ c i ≤ 1000000) (hd : 1 ≤ d ∧ d ≤ 1000) (h : ∀ i, i < 17 → 0 ≤ v i ∧ v i ≤ 65536) : mqH c v 17 d ≤ 65536 := by
  have s := sm_in 17 hc
  have f := mx_in (.inl rfl) (17 - 1) (v := v) (B := 65536) fun i hi => h i (by omega)
  have g := do_top 17 fun i hi => ⟨(hc i hi).1, (h i hi).2⟩
  have m := Int.mul_le_mul_of_nonneg_left f.2 (show 0 ≤ d by omega)
  unfold mqH
  have : -65536 ≤ (-(d * foN mxI v (17 - 1) + doN c v 17)) / (smN c 17 + d) := (Int.le_ediv_iff_mul_le (by omega)).2 (by omega)
  omega
theorem fo_mirX {v w : Nat → Int} : ∀ n, (∀ i, i ≤ n → w i = 65536 - v i) → foN mnI w n = 65536 - foN mxI v n
  | 0, h => h 0 (Nat.le_refl _)
  | n + 1, h => by
    have h1 := fo_mirX n fun i hi => h i (by omega)
    have h2 := h (n + 1) (Nat.le_refl _)
    rw [foN, foN, h1, h2]
    rcases mnI_or (65536 - foN mxI v n) (65536 - v (n + 1)) with ⟨_, e⟩ | ⟨_, e⟩ <;> rcases mxI_or (foN mxI v n) (v (n + 1)) with ⟨_, e'⟩ | ⟨_, e'⟩ <;> rw [e, e'] <;> omega
theorem fo_mirN {v w : Nat → Int} : ∀ n, (∀ i, i ≤ n → w i = 65536 - v i) → foN mxI w n = 65536 - foN mnI v n
  | 0, h => h 0 (Nat.le_refl _)
  | n + 1, h => by
    have h1 := fo_mirN n fun i hi => h i (by omega)
    have h2 := h (n + 1) (Nat.le_refl _)
    rw [foN, foN, h1, h2]
    rcases mxI_or (65536 - foN mnI v n) (65536 - v (n + 1)) with ⟨_, e⟩ | ⟨_, e⟩ <;> rcases mnI_or (foN mnI v n) (v (n + 1)) with ⟨_, e'⟩ | ⟨_, e'⟩ <;> rw [e, e'] <;> omega
theorem do_mir {c v w : Nat → Int} : ∀ n, (∀ i, i < n → c i = 0 ∨ w i = 65536 - v i) → doN c w n = 65536 * smN c n - doN c v n
  | 0, _ => rfl
  | n + 1, h => by
    have h1 := do_mir n fun i hi => h i (by omega)
    rw [doN, doN, smN, h1]
    rcases h n (by omega) with e | e
    · rw [e, Int.zero_mul, Int.zero_mul]; omega
    · rw [e, Int.mul_sub]; omega
theorem mqL_mir {c v w : Nat → Int} {d : Int} (hc : ∀ i, i < 17 → 0 ≤ c i ∧ c i ≤ 1000000) (hd : 1 ≤ d ∧ d ≤ 1000) (hf : foN mnI w 16 = 65536 - foN mxI v 16) (h : ∀ i, i < 17 → c i = 0 ∨ w i = 65536 - v i) : mqL c w 17 d = 65536 - mqH c v 17 d := by
  have s := sm_in 17 hc
  have g := do_mir 17 h
  unfold mqL mqH
  rw [show (17 : Nat) - 1 = 16 from rfl, g, hf, Int.mul_sub]
  have e : d * 65536 - d * foN mxI v 16 + (65536 * smN c 17 - doN c v 17) = -(d * foN mxI v 16 + doN c v 17) + 65536 * (smN c 17 + d) := by rw [Int.mul_add]; omega
  rw [e, Int.add_mul_ediv_right _ _ (show smN c 17 + d ≠ 0 by omega)]
  omega
theorem mqH_mir {c v w : Nat → Int} {d : Int} (hc : ∀ i, i < 17 → 0 ≤ c i ∧ c i ≤ 1000000) (hd : 1 ≤ d ∧ d ≤ 1000) (hf : foN mxI w 16 = 65536 - foN mnI v 16) (h : ∀ i, i < 17 → c i = 0 ∨ w i = 65536 - v i) : mqH c w 17 d = 65536 - mqL c v 17 d := by
  have s := sm_in 17 hc
  have g := do_mir 17 h
  unfold mqL mqH
  rw [show (17 : Nat) - 1 = 16 from rfl, g, hf, Int.mul_sub]
  have e : -(d * 65536 - d * foN mnI v 16 + (65536 * smN c 17 - doN c v 17)) = (d * foN mnI v 16 + doN c v 17) + -65536 * (smN c 17 + d) := by rw [Int.mul_add]; omega
  rw [e, Int.add_mul_ediv_right _ _ (show smN c 17 + d ≠ 0 by omega)]
  omega
end Go.Proofs.Ytcbfmkfmdcabmaa

namespace Go.Proofs.Ytcbfmkfmdcabmaa
open Go.RowKit
structure OkH (h : HpI) : Prop where
  lo : 0 ≤ h.1
  le : h.1 ≤ h.2.1
  hi : h.2.1 ≤ 65536
structure LeH (a b : HpI) : Prop where
  lo : a.1 ≤ b.1
  hi : a.2.1 ≤ b.2.1
theorem LeH.refl (a : HpI) : LeH a a := ⟨Int.le_refl _, Int.le_refl _⟩
theorem LeH.trans {a b c : HpI} (h : LeH a b) (g : LeH b c) : LeH a c := ⟨Int.le_trans h.lo g.lo, Int.le_trans h.hi g.hi⟩
def loS (F : Nat → HpI) (i : Nat) : Int := (F i).1
def hiS (F : Nat → HpI) (i : Nat) : Int := (F i).2.1
def syF (d : Int) (c : List Int) (F : Nat → HpI) : HpI := (mqL (atL c) (loS F) 17 d, mqH (atL c) (hiS F) 17 d, ())
def seqH (V : RvI → GsI → HpI) (r : RvI) (e l t : Int) (i : Nat) : HpI := hpO V r e l t ((i : Int) - 8)
theorem pn_lo (V : RvI → GsI → HpI) (r : RvI) (e l t : Int) (i : Nat) (hi : i < 17) : atL ((pnL V r e l t 17).map (·.1)) i = loS (seqH V r e l t) i := by
  unfold atL pnL
  rw [List.map_map, List.getD_eq_getElem?_getD, List.getElem?_map, List.getElem?_range hi]
  rfl
theorem pn_hi (V : RvI → GsI → HpI) (r : RvI) (e l t : Int) (i : Nat) (hi : i < 17) : atL ((pnL V r e l t 17).map (·.2.1)) i = hiS (seqH V r e l t) i := by
  unfold atL pnL
  rw [List.map_map, List.getD_eq_getElem?_getD, List.getElem?_map, List.getElem?_range hi]
  rfl
theorem cnZ_17 {c : List Int} (h : C17 c) (e : Int) : C17 (cnZ e c) := by
  unfold cnZ
  cases e == 0
  · exact h
  · show C17 (c.set 8 0)
    have hl : (c.set 8 0).length = 17 := by rw [List.length_set]; exact h.len
    refine ⟨?_, hl⟩
    have h1 := h.w
    unfold cntW at h1 ⊢
    simp only [Bool.and_eq_true, Bool.not_eq_true', List.any_eq_false, List.length_set] at h1 ⊢
    refine ⟨h1.1, h1.2.1, fun i hi => ?_⟩
    have h3 := h1.2.2 i hi
    rw [List.getD_eq_getElem?_getD, List.getElem?_set]
    split
    · split
      · unfold cnO; simp
      · unfold cnO; simp
    · rw [List.getD_eq_getElem?_getD] at h3; exact h3
theorem cnZ_8 (c : List Int) : atL (cnZ 0 c) 8 = 0 := by
  unfold cnZ atL
  show (c.set 8 0).getD 8 0 = 0
  rw [List.getD_eq_getElem?_getD, List.getElem?_set, if_pos rfl]
  split <;> rfl
theorem rv1_17 {L : List (List Int)} (h : rv1 L = true) {c : List Int} (hc : c ∈ L) : C17 c := by
  obtain ⟨i, hi, rfl⟩ := List.mem_iff_getElem.1 hc
  have := (rv1_in h).2.2 i hi
  rw [List.getD_eq_getElem?_getD, List.getElem?_eq_getElem hi] at this
  exact ⟨this.1, this.2⟩
theorem op_rv {r : RvI} (h : rvB r = true) (t : Int) : rv1 (opL r t) = true := by
  obtain ⟨h1, h2, _⟩ := rvB_in h
  unfold opL
  cases t == 0
  · exact h2
  · exact h1
theorem sy_eq {V : RvI → GsI → HpI} {r : RvI} {e l t : Int} (hd : 1 ≤ r.1 ∧ r.1 ≤ 1000) {c : List Int} (hc : C17 c) (hF : ∀ i, i < 17 → OkH (seqH V r e l t i)) : syH r.1 e (pnL V r e l t 17) c = syF r.1 (cnZ e c) (seqH V r e l t) := by
  have hl : (pnL V r e l t 17).length = 17 := pnL_len ..
  have v1 : V17 ((pnL V r e l t 17).map (·.1)) := ⟨by rw [List.length_map, hl], fun i hi => by
    rw [pn_lo V r e l t i hi]
    have := hF i hi
    exact ⟨this.lo, Int.le_trans this.le this.hi⟩⟩
  have v2 : V17 ((pnL V r e l t 17).map (·.2.1)) := ⟨by rw [List.length_map, hl], fun i hi => by
    rw [pn_hi V r e l t i hi]
    have := hF i hi
    exact ⟨Int.le_trans this.lo this.le, this.hi⟩⟩
  unfold syH syF
  rw [meH_17 (cnZ_17 hc e) v1 v2 hd, mqL_congr (pn_lo V r e l t), mqH_congr (pn_hi V r e l t)]
theorem st_eq {V : RvI → GsI → HpI} {r : RvI} {e l t : Int} (hr : rvB r = true) (hF : ∀ i, i < 17 → OkH (seqH V r e l t i)) : stH V r e l t = (opL r t).map fun c => syF r.1 (cnZ e c) (seqH V r e l t) := by
  unfold stH
  exact List.map_congr_left fun c hc => sy_eq (rvB_in hr).2.2 (rv1_17 (op_rv hr t) hc) hF
theorem syF_ok {d : Int} (hd : 1 ≤ d ∧ d ≤ 1000) {c : List Int} (hc : C17 c) {F : Nat → HpI} (hF : ∀ i, i < 17 → OkH (F i)) : OkH (syF d c F) := by
  have a : ∀ i, i < 17 → 0 ≤ loS F i ∧ loS F i ≤ 65536 := fun i hi => ⟨(hF i hi).lo, Int.le_trans (hF i hi).le (hF i hi).hi⟩
  have b : ∀ i, i < 17 → 0 ≤ hiS F i ∧ hiS F i ≤ 65536 := fun i hi => ⟨Int.le_trans (hF i hi).lo (hF i hi).le, (hF i hi).hi⟩
  exact ⟨mqL_nn hc.bd hd a, mq_le hc.bd hd fun i hi => (hF i hi).le, mqH_top hc.bd hd b⟩
/-! What is chosen. -/
abbrev H0 : HpI := (0, 0, ())
def chA (t : Int) (L : List HpI) (i : Nat) : HpI := ((chN (opT t) L i).1, (chN (opT t) L i).2, ())
theorem chO_at (t : Int) (L : List HpI) : chO t L = chA t L (L.length - 1) := rfl
theorem opT_or (t : Int) : (t = 0 ∧ opT t = mxI) ∨ (t ≠ 0 ∧ opT t = mnI) := by
  by_cases h : t = 0
  · subst h; exact .inl ⟨rfl, rfl⟩
  · exact .inr ⟨h, by unfold opT; rw [show (t == 0) = false from beq_eq_false_iff_ne.2 h]; rfl⟩
theorem chA_ok {t : Int} {L : List HpI} : ∀ i, (∀ j, j ≤ i → OkH (L.getD j H0)) → OkH (chA t L i)
  | 0, h => h 0 (Nat.le_refl _)
  | i + 1, h => by
    have h1 := chA_ok (t := t) i fun j hj => h j (by omega)
    have h2 := h (i + 1) (Nat.le_refl _)
    have e : chA t L (i + 1) = (opT t (chA t L i).1 (L.getD (i + 1) H0).1, opT t (chA t L i).2.1 (L.getD (i + 1) H0).2.1, ()) := rfl
    rw [e]
    generalize chA t L i = a at h1
    generalize L.getD (i + 1) H0 = b at h2
    obtain ⟨a1, a2, a3⟩ := h1
    obtain ⟨b1, b2, b3⟩ := h2
    rcases opT_or t with ⟨_, o⟩ | ⟨_, o⟩ <;> rw [o]
    · rcases mxI_or a.1 b.1 with ⟨_, e1⟩ | ⟨_, e1⟩ <;> rcases mxI_or a.2.1 b.2.1 with ⟨_, e2⟩ | ⟨_, e2⟩ <;> rw [e1, e2] <;> constructor <;> simp only [] <;> omega
    · rcases mnI_or a.1 b.1 with ⟨_, e1⟩ | ⟨_, e1⟩ <;> rcases mnI_or a.2.1 b.2.1 with ⟨_, e2⟩ | ⟨_, e2⟩ <;> rw [e1, e2] <;> constructor <;> simp only [] <;> omega
theorem chO_ok {t : Int} {L : List HpI} (h0 : 0 < L.length) (h : ∀ x ∈ L, OkH x) : OkH (chO t L) := by
  rw [chO_at]
  refine chA_ok _ fun j hj => ?_
  have hl : j < L.length := by omega
  rw [List.getD_eq_getElem?_getD, List.getElem?_eq_getElem hl]
  exact h _ (List.getElem_mem hl)
/-! Hopes. -/
theorem su_ok (b : Bool) : OkH (suV b, suV b, ()) := by cases b <;> constructor <;> decide
theorem op_ne {r : RvI} (hr : rvB r = true) (t : Int) : 0 < (opL r t).length := by
  have := (rv1_in (op_rv hr t)).1; omega
theorem st_ok {V : RvI → GsI → HpI} {r : RvI} {e l t : Int} (hr : rvB r = true) (hF : ∀ i, i < 17 → OkH (seqH V r e l t i)) : ∀ x ∈ stH V r e l t, OkH x := by
  rw [st_eq hr hF]
  intro x hx
  obtain ⟨c, hc, rfl⟩ := List.mem_map.1 hx
  exact syF_ok (rvB_in hr).2.2 (cnZ_17 (rv1_17 (op_rv hr t) hc) e) hF
theorem st_len (V : RvI → GsI → HpI) (r : RvI) (e l t : Int) : (stH V r e l t).length = (opL r t).length := List.length_map ..
theorem hv_ok {r : RvI} (hr : rvB r = true) : ∀ (n : Nat) (e l t : Int), e = (n : Int) → stB (e, l, t, ()) = true → OkH (hv r (e, l, t, ()))
  | n, e, l, t, he, hs => by
    have hF : ∀ i, i < 17 → OkH (seqH hv r e l t i) := fun i hi => by
      unfold seqH hpO
      by_cases h0 : e > 0
      · rw [decide_eq_true h0, cond_true]
        match n, he with
        | 0, he => omega
        | n + 1, he =>
          have hb := (stB_in hs).1
          refine hv_ok hr n _ _ _ ?_ (nx_st hs h0)
          rw [nx_e h0 hb.2]; omega
      · rw [decide_eq_false h0, cond_false]
        exact su_ok _
    have hb := (stB_in hs).1
    rw [hv_eq hb.1 hb.2]
    cases e == 0 && l != 0
    · exact chO_ok (by rw [st_len]; exact op_ne hr t) (st_ok hr hF)
    · exact su_ok _
theorem seq_ok {r : RvI} (hr : rvB r = true) {e l t : Int} (hs : stB (e, l, t, ()) = true) (i : Nat) : OkH (seqH hv r e l t i) := by
  unfold seqH hpO
  by_cases h0 : e > 0
  · rw [decide_eq_true h0, cond_true]
    have h1 := nx_st (p := (i : Int) - 8) hs h0
    exact hv_ok hr (nxE e).toNat _ _ _ (by have := (stB_in h1).1.1; exact (Int.toNat_of_nonneg this).symm) h1
  · rw [decide_eq_false h0, cond_false]
    exact su_ok _
end Go.Proofs.Ytcbfmkfmdcabmaa

namespace Go.Proofs.Ytcbfmkfmdcabmaa
open Go.RowKit
def mir (h : HpI) : HpI := (65536 - h.2.1, 65536 - h.1, ())
theorem cl_neg (x : Int) : clL (-x) = -clL x := by
  unfold clL
  by_cases h1 : x < 96
  · by_cases h2 : -x < 96
    · rw [if_pos h1, if_pos h2, if_pos (show -96 < -x by omega), if_pos (show -96 < x by omega)]
    · rw [if_pos h1, if_neg h2, if_pos (show (-96 : Int) < 96 by omega)]
      split <;> omega
  · by_cases h2 : -x < 96
    · rw [if_neg h1, if_pos h2, if_pos (show (-96 : Int) < 96 by omega)]
      split <;> omega
    · omega
theorem nx_mir {e l t p : Int} (hl : -96 ≤ l ∧ l ≤ 96) (ht : t = 0 ∨ t = 1) (hp : -8 ≤ p ∧ p ≤ 8) : nxG e (-l) (1 - t) p = (nxE e, -(nxL l t p), 1 - nxT t p, ()) := by
  unfold nxG nxL nxT
  have w1 : IntKind.i64.wrap (1 * p) = p := by rw [IntKind.wrap_i64]; omega
  have w2 : IntKind.i64.wrap (-1 * p) = -p := by rw [IntKind.wrap_i64]; omega
  rcases ht with rfl | rfl
  · show (nxE e, clL (IntKind.i64.wrap (-l + IntKind.i64.wrap (-1 * p))), bif decide (p > 0) then IntKind.i64.wrap (1 - (1 - 0)) else 1 - 0, ()) = (nxE e, -clL (IntKind.i64.wrap (l + IntKind.i64.wrap (1 * p))), 1 - (bif decide (p > 0) then IntKind.i64.wrap (1 - 0) else 0), ())
    rw [w1, w2, i64_in (-l + -p) (by omega), i64_in (l + p) (by omega), show -l + -p = -(l + p) by omega, cl_neg]
    cases decide (p > 0) <;> rfl
  · show (nxE e, clL (IntKind.i64.wrap (-l + IntKind.i64.wrap (1 * p))), bif decide (p > 0) then IntKind.i64.wrap (1 - (1 - 1)) else 1 - 1, ()) = (nxE e, -clL (IntKind.i64.wrap (l + IntKind.i64.wrap (-1 * p))), 1 - (bif decide (p > 0) then IntKind.i64.wrap (1 - 1) else 1), ())
    rw [w1, w2, i64_in (-l + p) (by omega), i64_in (l + -p) (by omega), show -l + p = -(l + -p) by omega, cl_neg]
    cases decide (p > 0) <;> rfl
theorem op_mir (d : Int) (A B : List (List Int)) {t : Int} (ht : t = 0 ∨ t = 1) : opL (d, B, A) (1 - t) = opL (d, A, B) t := by
  rcases ht with rfl | rfl <;> rfl
theorem opT_mir {t : Int} (ht : t = 0 ∨ t = 1) (a b : Int) : opT (1 - t) (65536 - a) (65536 - b) = 65536 - opT t a b := by
  rcases ht with rfl | rfl
  · show mnI _ _ = 65536 - mxI a b
    rcases mnI_or (65536 - a) (65536 - b) with ⟨_, e1⟩ | ⟨_, e1⟩ <;> rcases mxI_or a b with ⟨_, e2⟩ | ⟨_, e2⟩ <;> rw [e1, e2] <;> omega
  · show mxI _ _ = 65536 - mnI a b
    rcases mxI_or (65536 - a) (65536 - b) with ⟨_, e1⟩ | ⟨_, e1⟩ <;> rcases mnI_or a b with ⟨_, e2⟩ | ⟨_, e2⟩ <;> rw [e1, e2] <;> omega
theorem getD_mir {L : List HpI} {i : Nat} (hi : i < L.length) : (L.map mir).getD i H0 = mir (L.getD i H0) := by
  rw [List.getD_eq_getElem?_getD, List.getElem?_map, List.getElem?_eq_getElem hi, List.getD_eq_getElem?_getD, List.getElem?_eq_getElem hi]
  rfl
theorem chA_mir {t : Int} (ht : t = 0 ∨ t = 1) (L : List HpI) : ∀ i, i < L.length → chA (1 - t) (L.map mir) i = mir (chA t L i)
  | 0, h => by
    show (((L.map mir).getD 0 H0).1, ((L.map mir).getD 0 H0).2.1, ()) = _
    rw [getD_mir h]; rfl
  | i + 1, h => by
    have h1 := chA_mir ht L i (by omega)
    have e1 : (chN (opT (1 - t)) (L.map mir) i).1 = 65536 - (chN (opT t) L i).2 := congrArg (fun h : HpI => h.1) h1
    have e2 : (chN (opT (1 - t)) (L.map mir) i).2 = 65536 - (chN (opT t) L i).1 := congrArg (fun h : HpI => h.2.1) h1
    show (opT (1 - t) (chN (opT (1 - t)) (L.map mir) i).1 ((L.map mir).getD (i + 1) H0).1, opT (1 - t) (chN (opT (1 - t)) (L.map mir) i).2 ((L.map mir).getD (i + 1) H0).2.1, ()) = _
    rw [e1, e2, getD_mir h]
    show (opT (1 - t) _ (65536 - (L.getD (i + 1) H0).2.1), opT (1 - t) _ (65536 - (L.getD (i + 1) H0).1), ()) = _
    rw [opT_mir ht, opT_mir ht]
    rfl
theorem chO_mir {t : Int} (ht : t = 0 ∨ t = 1) {L : List HpI} (h0 : 0 < L.length) : chO (1 - t) (L.map mir) = mir (chO t L) := by
  rw [chO_at, chO_at, List.length_map]
  exact chA_mir ht L _ (by omega)
theorem syF_mir {d : Int} (hd : 1 ≤ d ∧ d ≤ 1000) {c : List Int} (hc : C17 c) {F G : Nat → HpI} (f1 : foN mnI (loS G) 16 = 65536 - foN mxI (hiS F) 16) (f2 : foN mxI (hiS G) 16 = 65536 - foN mnI (loS F) 16)
    (h : ∀ i, i < 17 → atL c i = 0 ∨ G i = mir (F i)) : syF d c G = mir (syF d c F) := by
  have e1 := mqL_mir (w := loS G) (v := hiS F) hc.bd hd f1 fun i hi => (h i hi).imp_right fun e => show (G i).1 = 65536 - (F i).2.1 by rw [e]; rfl
  have e2 := mqH_mir (w := hiS G) (v := loS F) hc.bd hd f2 fun i hi => (h i hi).imp_right fun e => show (G i).2.1 = 65536 - (F i).1 by rw [e]; rfl
  unfold syF mir
  rw [e1, e2]
theorem su_mir {t p : Int} (ht : t = 0 ∨ t = 1) (hp : p ≠ 0) : suV (suB (1 - t) p) = 65536 - suV (suB t p) := by
  unfold suB
  rcases ht with rfl | rfl
  · show suV ((decide (p > 0) && false) || (decide (p < 0) && true)) = 65536 - suV ((decide (p > 0) && true) || (decide (p < 0) && false))
    by_cases h : p > 0
    · rw [decide_eq_true h, decide_eq_false (show ¬ p < 0 by omega)]; rfl
    · rw [decide_eq_false h, decide_eq_true (show p < 0 by omega)]; rfl
  · show suV ((decide (p > 0) && true) || (decide (p < 0) && false)) = 65536 - suV ((decide (p > 0) && false) || (decide (p < 0) && true))
    by_cases h : p > 0
    · rw [decide_eq_true h, decide_eq_false (show ¬ p < 0 by omega)]; rfl
    · rw [decide_eq_false h, decide_eq_true (show p < 0 by omega)]; rfl
def zqS (t : Int) (i : Nat) : Int := suV (suB t ((i : Int) - 8))
theorem zq_fo {t : Int} (ht : t = 0 ∨ t = 1) : foN mnI (zqS t) 16 = 0 ∧ foN mxI (zqS t) 16 = 65536 := by
  rcases ht with rfl | rfl <;> decide
theorem seq_zero (V : RvI → GsI → HpI) (r : RvI) (l t : Int) (i : Nat) : seqH V r 0 l t i = (zqS t i, zqS t i, ()) := rfl
theorem st_mir {d : Int} {A B : List (List Int)} (hr : rvB (d, A, B) = true) (hr' : rvB (d, B, A) = true) {e l t : Int} (hs : stB (e, l, t, ()) = true) (hs' : stB (e, -l, 1 - t, ()) = true)
    (ih : e > 0 → ∀ i, i < 17 → seqH hv (d, B, A) e (-l) (1 - t) i = mir (seqH hv (d, A, B) e l t i)) : stH hv (d, B, A) e (-l) (1 - t) = (stH hv (d, A, B) e l t).map mir := by
  have ht := (stB_in hs).2.2
  have he := (stB_in hs).1
  rw [st_eq hr' fun i _ => seq_ok hr' hs' i, st_eq hr fun i _ => seq_ok hr hs i, op_mir d A B ht, List.map_map]
  refine List.map_congr_left fun c hc => ?_
  have h17 := cnZ_17 (rv1_17 (op_rv hr t) hc) e
  have hd := (rvB_in hr).2.2
  by_cases h0 : e > 0
  · have ih := ih h0
    have f1 := fo_mirX (v := hiS (seqH hv (d, A, B) e l t)) (w := loS (seqH hv (d, B, A) e (-l) (1 - t))) 16 fun i hi => congrArg (·.1) (ih i (by omega))
    have f2 := fo_mirN (v := loS (seqH hv (d, A, B) e l t)) (w := hiS (seqH hv (d, B, A) e (-l) (1 - t))) 16 fun i hi => congrArg (fun h : HpI => h.2.1) (ih i (by omega))
    exact syF_mir hd h17 f1 f2 fun i hi => .inr (ih i hi)
  · have e0 : e = 0 := by simp only at he; omega
    subst e0
    have ht' : (1 : Int) - t = 0 ∨ (1 : Int) - t = 1 := by simp only at ht; omega
    have z1 := zq_fo ht
    have z2 := zq_fo ht'
    refine syF_mir hd h17 ?_ ?_ fun i hi => ?_
    · show foN mnI (zqS (1 - t)) 16 = 65536 - foN mxI (zqS t) 16
      rw [z1.2, z2.1]; rfl
    · show foN mxI (zqS (1 - t)) 16 = 65536 - foN mnI (zqS t) 16
      rw [z1.1, z2.2]; rfl
    · by_cases h8 : i = 8
      · subst h8; exact .inl (cnZ_8 c)
      · right
        rw [seq_zero, seq_zero]
        unfold zqS mir
        rw [su_mir ht (show (i : Int) - 8 ≠ 0 by omega)]
theorem st_in {e l t : Int} (hs : stB (e, l, t, ()) = true) : stB (e, -l, 1 - t, ()) = true := by
  obtain ⟨h1, h2, h3⟩ := stB_in hs
  simp only at h1 h2 h3
  unfold stB hmB
  simp only [Bool.and_eq_true, Bool.or_eq_true, decide_eq_true_eq, beq_iff_eq]
  omega
theorem hv_mir {d : Int} {A B : List (List Int)} (hr : rvB (d, A, B) = true) (hr' : rvB (d, B, A) = true) : ∀ (n : Nat) (e l t : Int), e = (n : Int) → stB (e, l, t, ()) = true → hv (d, B, A) (e, -l, 1 - t, ()) = mir (hv (d, A, B) (e, l, t, ()))
  | n, e, l, t, he, hs => by
    have hb := stB_in hs
    have ih : e > 0 → ∀ i, i < 17 → seqH hv (d, B, A) e (-l) (1 - t) i = mir (seqH hv (d, A, B) e l t i) := fun h0 i hi => by
      match n, he with
      | 0, he => omega
      | n + 1, he =>
        unfold seqH hpO
        rw [decide_eq_true h0, cond_true, cond_true, nx_mir hb.2.1 hb.2.2 (by omega)]
        exact hv_mir hr hr' n _ _ _ (by rw [nx_e h0 hb.1.2]; omega) (nx_st hs h0)
    have hs' := st_in hs
    have e0 : 0 ≤ e := hb.1.1
    have e1 : e ≤ 12 := hb.1.2
    rw [hv_eq e0 e1, hv_eq e0 e1]
    by_cases hl : l = 0
    · subst hl
      rw [show ((-0 : Int) != 0) = false from rfl, show ((0 : Int) != 0) = false from rfl, Bool.and_false, cond_false, cond_false, st_mir hr hr' hs hs' ih]
      exact chO_mir hb.2.2 (by rw [st_len]; exact op_ne hr t)
    · rw [show (-l != 0) = true from bne_iff_ne.2 (by omega), show (l != 0) = true from bne_iff_ne.2 hl, Bool.and_true]
      cases e == 0
      · rw [cond_false, cond_false, st_mir hr hr' hs hs' ih]
        exact chO_mir hb.2.2 (by rw [st_len]; exact op_ne hr t)
      · show (suV (decide (-l > 0)), suV (decide (-l > 0)), ()) = mir (suV (decide (l > 0)), suV (decide (l > 0)), ())
        by_cases h : l > 0
        · rw [decide_eq_true h, decide_eq_false (show ¬ -l > 0 by omega)]; rfl
        · rw [decide_eq_false h, decide_eq_true (show -l > 0 by omega)]; rfl
theorem sty_mir {d : Int} {A B : List (List Int)} (hr : rvB (d, A, B) = true) (hr' : rvB (d, B, A) = true) {e l t : Int} (hs : stB (e, l, t, ()) = true) : stH hv (d, B, A) e (-l) (1 - t) = (stH hv (d, A, B) e l t).map mir := by
  have hb := stB_in hs
  refine st_mir hr hr' hs (st_in hs) fun h0 i hi => ?_
  unfold seqH hpO
  rw [decide_eq_true h0, cond_true, cond_true, nx_mir hb.2.1 hb.2.2 (by omega)]
  have hn := nx_st (p := (i : Int) - 8) hs h0
  exact hv_mir hr hr' (nxE e).toNat _ _ _ (Int.toNat_of_nonneg (stB_in hn).1.1).symm hn
/-! The best one. -/
theorem beQ_mir {t : Int} (ht : t = 0 ∨ t = 1) (a b : HpI) : beQ (1 - t) (mir a) (mir b) = beQ t a b := by
  rcases ht with rfl | rfl
  · show decide (65536 - a.1 < 65536 - b.1) = decide (a.1 > b.1)
    exact decide_eq_decide.2 (by omega)
  · show decide (65536 - a.2.1 > 65536 - b.2.1) = decide (a.2.1 < b.2.1)
    exact decide_eq_decide.2 (by omega)
theorem beN_mir {t : Int} (ht : t = 0 ∨ t = 1) (L : List HpI) : ∀ i, i ≤ L.length → beN (1 - t) (L.map mir) i = beN t L i
  | 0, _ => rfl
  | i + 1, h => by
    have hb := beN_lt t L i (by omega) (by omega)
    rw [beN, beN, beN_mir ht L i (by omega), getD_mir (show i < L.length by omega), getD_mir hb, beQ_mir ht]
theorem beX_mir {t : Int} (ht : t = 0 ∨ t = 1) (L : List HpI) : beX (1 - t) (L.map mir) = beX t L := by
  unfold beX
  rw [List.length_map]
  exact beN_mir ht L _ (Nat.le_refl _)
theorem siX_mir {t : Int} (ht : t = 0 ∨ t = 1) {L : List HpI} (h0 : 0 < L.length) : siX (1 - t) (L.map mir) = siX t L := by
  have hb := beN_lt t L L.length h0 (Nat.le_refl _)
  unfold siX
  rw [List.length_map]
  have key : ∀ i, i < L.length → siP (1 - t) (L.map mir) i = siP t L i := fun i hi => by
    unfold siP
    rw [beX_mir ht, getD_mir hi, getD_mir (show beX t L < L.length from hb)]
    congr 1
    rcases ht with rfl | rfl
    · show decide (65536 - (L.getD i H0).2.1 ≥ 65536 - (L.getD (beX 0 L) H0).1) = decide ((L.getD i H0).2.1 ≤ (L.getD (beX 0 L) H0).1)
      exact decide_eq_decide.2 (by omega)
    · show decide (65536 - (L.getD i H0).1 ≤ 65536 - (L.getD (beX 1 L) H0).2.1) = decide ((L.getD i H0).1 ≥ (L.getD (beX 1 L) H0).2.1)
      exact decide_eq_decide.2 (by omega)
  rw [Bool.eq_iff_iff, List.all_eq_true, List.all_eq_true]
  exact ⟨fun h i hi => by rw [← key i (List.mem_range.1 hi)]; exact h i hi, fun h i hi => by rw [key i (List.mem_range.1 hi)]; exact h i hi⟩
end Go.Proofs.Ytcbfmkfmdcabmaa
