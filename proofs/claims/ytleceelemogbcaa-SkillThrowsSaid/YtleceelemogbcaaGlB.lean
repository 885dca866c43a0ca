/- glide.CheckBrooms. -/
import Derived.Test.YtleceelemogbcaaGlA
namespace Go.Proofs.Ytleceelemogbcaa
open Go.RowKit

/-- A broom. -/
structure Brm where
  lo : Int
  hi : Int
  st : Int
abbrev Brm.v (b : Brm) : Value := .agg #[.int .i64 b.lo, .int .i64 b.hi, .int .i64 b.st]

def brm0 : Brm := ⟨0, 0, 0⟩
/-- The broom at a place. -/
def bat (l : List Brm) (i : Nat) : Brm := l.getD i brm0

/-- v is a slice of brooms that reads as l. -/
def Brms (w : World) (v : Value) (l : List Brm) : Prop :=
  (∃ p cap, v = .slice p 0 cap ∧ l = []) ∨
  (∃ b off cap, v = .slice (some ⟨b, off, none⟩) l.length cap ∧ 0 < l.length ∧ l.length ≤ 9223372036854775807 ∧ ∀ i, i < l.length → w.cell? ⟨b, off + i * 3, none⟩ = some (.int .i64 (bat l i).lo) ∧ w.cell? ⟨b, off + i * 3 + 1, none⟩ = some (.int .i64 (bat l i).hi) ∧ w.cell? ⟨b, off + i * 3 + 2, none⟩ = some (.int .i64 (bat l i).st))

theorem Brms.below {w w' : World} {v : Value} {l : List Brm} {B : Nat} (h : Brms w v l) (hb : Below B w w') (hB : w.heap.size ≤ B) : Brms w' v l := by
  rcases h with h | ⟨b, off, cap, rfl, h0, h1, h2⟩
  · exact .inl h
  · refine .inr ⟨b, off, cap, rfl, h0, h1, fun i hi => ?_⟩
    obtain ⟨a, c, d⟩ := h2 i hi
    have hlt := lt_of_cell a
    exact ⟨(hb.cell (p := ⟨b, _, none⟩) (by show b < B; omega)).trans a, (hb.cell (p := ⟨b, _, none⟩) (by show b < B; omega)).trans c, (hb.cell (p := ⟨b, _, none⟩) (by show b < B; omega)).trans d⟩

theorem Brms.len_le {w : World} {v : Value} {l : List Brm} (h : Brms w v l) : l.length ≤ 9223372036854775807 := by
  rcases h with ⟨_, _, _, rfl⟩ | ⟨_, _, _, _, _, h1, _⟩
  · simp
  · exact h1

theorem Brms.shape {w : World} {v : Value} {l : List Brm} (h : Brms w v l) : ∃ p cap, v = .slice p l.length cap := by
  rcases h with ⟨p, cap, rfl, rfl⟩ | ⟨b, off, cap, rfl, _⟩
  · exact ⟨p, cap, rfl⟩
  · exact ⟨_, _, rfl⟩

theorem bat_mem {l : List Brm} {i : Nat} (h : i < l.length) : bat l i ∈ l := by
  rw [bat, List.getD_eq_getElem?_getD, List.getElem?_eq_getElem h]; simp

/-- Is something wrong with a broom? -/
def Brm.bad (b : Brm) : Bool := !wB b.lo 0 b.hi || (decide (6000 < b.hi) || !wB b.st 0 1000)

/-- Are brooms valid? -/
def broomsB (l : List Brm) : Bool := decide (l.length ≤ 64) && !(l.any Brm.bad)

theorem brooms1_c (b : Brm) (w : World) : Calls Try.prog 59 #[b.v] w fun e w' => e = .returned (.bool b.bad) ∧ Below w.heap.size w w' := by
  obtain ⟨lo, hi, st⟩ := b
  unfold Brm.bad Brm.v
  simp only
  cases e1 : wB lo 0 hi <;> cases e2 : decide (6000 < hi) <;> cases e3 : wB st 0 1000
  all_goals
    have H1 : Hid (wB lo 0 hi = _) := e1
    have H3 : Hid (wB st 0 1000 = _) := e3
    clear e1 e3
    go_enter Try.func59, Try.ntmps59
    go_wp2_with (go_at_call 60; refine (gwithin_c _ _ _ _).mono ?_; rintro e w' ⟨rfl, rfl⟩; first | rw [H1.out] | rw [H3.out])
    go_ret
    exact ⟨rfl, (Below.refl _ _).alloc (Nat.le_refl _) _⟩

set_option maxHeartbeats 1000000 in
/-- slices.ContainsFunc's IndexFunc over brooms: is there one that is odd? -/
theorem indexBrm_c (l : List Brm) (v : Value) (w : World) (hv : Brms w v l) :
    Calls Try.prog 71 #[v, .func (.func 59) #[] #[]] w fun e w' => (∃ k : Int, e = .returned (.int .i64 k) ∧ decide (0 ≤ k) = l.any Brm.bad) ∧ Below w.heap.size w w' := by
  rcases hv with ⟨q, cap, rfl, rfl⟩ | ⟨b, off, cap, rfl, h0, h1, h2⟩
  · go_enter Try.func71, Try.ntmps71
    go_wp2_with fail
    go_loop [5, 8] (fun _ i => i = .int .i64 0) (fun _ _ => 0)
    case atStart => rfl
    case round =>
      subst hrel
      go_wp2_with fail
      go_ret
      exact ⟨⟨-1, rfl, by simp⟩, Below.refl _ _⟩
  · have hblt := lt_of_cell (h2 0 h0).1
    have H2 := Hid.mk' h2
    clear h2
    generalize hn : l.length = n at *
    have HN := Hid.mk' hn
    clear hn
    go_enter Try.func71, Try.ntmps71
    go_wp2_with fail
    go_loopw [5, 8] (fun _ i wr => ∃ k : Nat, k ≤ n ∧ i = .int .i64 k ∧ Below w.heap.size w wr ∧ Hid (∀ j, j < k → (bat l j).bad = false)) (fun _ i _ => n - (intOf i).toNat)
    case atStart => exact ⟨0, Nat.zero_le _, rfl, Below.refl _ _, fun j hj => by omega⟩
    case round =>
      obtain ⟨k, hk, rfl, hbel, hno⟩ := hrel
      by_cases hlt : k < n
      · obtain ⟨a0, a1, a2⟩ := H2.out k hlt
        have c0 := (hbel.cell (p := ⟨b, off + k * 3, none⟩) hblt).trans a0
        have c1 := (hbel.cell (p := ⟨b, off + k * 3 + 1, none⟩) hblt).trans a1
        have c2 := (hbel.cell (p := ⟨b, off + k * 3 + 2, none⟩) hblt).trans a2
        clear a0 a1 a2
        have hmem := bat_mem (l := l) (i := k) (by rw [HN.out]; exact hlt)
        have HM := Hid.mk' hmem
        clear hmem
        generalize hx : bat l k = x at *
        have HX := Hid.mk' hx
        clear hx
        obtain ⟨lo, hi, st⟩ := x
        simp only at c0 c1 c2
        cases hb : (Brm.mk lo hi st).bad
        · have HB := Hid.mk' hb
          clear hb
          go_wp2_with (go_at_call 59; refine (brooms1_c ⟨lo, hi, st⟩ _).mono ?_; rintro e w1 ⟨rfl, hb1⟩; rw [HB.out])
          go_roundw
          case rel => exact ⟨k + 1, by omega, by go_num, hbel.trans (hb1.mono hbel.size), upto_succ hno.out (by rw [HX.out]; exact HB.out)⟩
          case measure => simp [intOf]; omega
        · have HB := Hid.mk' hb
          clear hb
          go_wp2_with (go_at_call 59; refine (brooms1_c ⟨lo, hi, st⟩ _).mono ?_; rintro e w1 ⟨rfl, hb1⟩; rw [HB.out])
          go_ret
          refine ⟨⟨k, rfl, ?_⟩, hbel.trans (hb1.mono hbel.size)⟩
          rw [show decide ((0 : Int) ≤ (k : Int)) = true by simp]
          exact (List.any_eq_true.2 ⟨_, HM.out, HB.out⟩).symm
      · go_wp2_with fail
        go_ret
        refine ⟨⟨-1, rfl, ?_⟩, hbel⟩
        rw [show decide ((0 : Int) ≤ -1) = false from rfl]
        refine (List.any_eq_false.2 fun x hx => ?_).symm
        obtain ⟨j, hj, rfl⟩ := List.mem_iff_getElem.1 hx
        have := hno.out j (by have := HN.out; omega)
        rw [bat, List.getD_eq_getElem?_getD, List.getElem?_eq_getElem hj] at this
        simpa using this

theorem containsBrm_c (l : List Brm) (v : Value) (w : World) (hv : Brms w v l) :
    Calls Try.prog 61 #[v, .func (.func 59) #[] #[]] w fun e w' => e = .returned (.bool (l.any Brm.bad)) ∧ Below w.heap.size w w' := by
  have HV := Hid.mk' hv
  clear hv
  go_enter Try.func61, Try.ntmps61
  go_wp2_with (go_at_call 71; refine (indexBrm_c l v _ HV.out).mono ?_; rintro e w1 ⟨⟨k, rfl, hk⟩, hb⟩; have HK := Hid.mk' hk; clear hk)
  go_ret
  exact ⟨by rw [← HK.out]; rfl, hb⟩

theorem checkBrooms_c (l : List Brm) (v : Value) (w : World) (hv : Brms w v l) :
    Calls Try.prog 35 #[v] w fun e w' => e = .returned (.int .i64 (errB (broomsB l))) ∧ Below w.heap.size w w' := by
  unfold broomsB
  have HV := Hid.mk' hv
  obtain ⟨p, cap, rfl⟩ := hv.shape
  have hl := hv.len_le
  clear hv
  by_cases h : l.length ≤ 64
  case neg =>
    have hd : decide ((64 : Int) < (l.length : Int)) = true := by simp only [decide_eq_true_eq]; omega
    have hf : decide (l.length ≤ 64) = false := by simpa using h
    have HF := Hid.mk' hf
    clear hf h
    go_enter Try.func35, Try.ntmps35
    go_wp2_with fail
    go_ret
    exact ⟨by rw [HF.out]; rfl, Below.refl _ _⟩
  have hd : decide ((64 : Int) < (l.length : Int)) = false := by simp only [decide_eq_false_iff_not]; omega
  have hf : decide (l.length ≤ 64) = true := by simpa using h
  have HF := Hid.mk' hf
  clear hf h
  cases h2 : l.any Brm.bad
  all_goals
    have H2 : Hid (l.any Brm.bad = _) := h2
    clear h2
    go_enter Try.func35, Try.ntmps35
    go_wp2_with (go_at_call 61; refine (containsBrm_c l _ _ HV.out).mono ?_; rintro e w1 ⟨rfl, hb⟩; rw [H2.out])
    go_ret
    exact ⟨by rw [HF.out]; rfl, hb⟩
end Go.Proofs.Ytleceelemogbcaa
