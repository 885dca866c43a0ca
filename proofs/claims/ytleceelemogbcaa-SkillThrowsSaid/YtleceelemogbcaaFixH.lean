/- The contract of fixed.Scale, where it has a result. -/
import Derived.Test.YtleceelemogbcaaFixG
namespace Go.Proofs.Ytleceelemogbcaa
open Go.RowKit NumA

/-- Is a factor or a divisor valid? -/
def okRate (x : Int) : Prop := -2147483648 ≤ x ∧ x ≤ 2147483648

/-- fixed.Scale as a function, at valid numbers. -/
def scaleX (a num den how : Int) : Except Int Int :=
  quot (hiW (absI a * absI num)) (loW (absI a * absI num)) (absI den) (decide (a < 0) != (decide (num < 0) != decide (den < 0))) how

theorem right_one {w : World} {b : Nat} {a : Int} (h : w.cell? ⟨b, 0, none⟩ = some (.int .i64 a)) : ∀ k, k < 1 → w.cell? ⟨b, k, none⟩ = some (.int .i64 ((fun _ => a) k)) := by
  intro k hk
  obtain rfl : k = 0 := by omega
  exact h

theorem neg3 (x y z : Bool) : (!x == !y == z) = (x != (y != z)) := by cases x <;> cases y <;> cases z <;> rfl

set_option maxHeartbeats 1000000 in
theorem scale1_c (b : Nat) (a num den how v : Int) (w : World) (h0 : w.cell? ⟨b, 0, none⟩ = some (.int .i64 a)) (h1 : w.cell? ⟨b + 1, 0, none⟩ = some (.int .i64 num)) (h2 : w.cell? ⟨b + 2, 0, none⟩ = some (.int .i64 den)) (h3 : w.cell? ⟨b + 3, 0, none⟩ = some (.int .i64 how)) (hb : b + 3 < w.heap.size)
    (c1 : okFix a) (c2 : Way how) (c3 : okRate num) (c3' : okRate den) (c4 : den ≠ 0) (hr : scaleX a num den how = .ok v) :
    Calls Try.prog 77 #[.pointer (some ⟨b, 0, none⟩), .pointer (some ⟨b + 3, 0, none⟩), .pointer (some ⟨b + 1, 0, none⟩), .pointer (some ⟨b + 2, 0, none⟩)] w fun e w' => e = endFix (.ok v) ∧ Below w.heap.size w w' := by
  have hal : ∀ o, Below w.heap.size w (w.alloc o) := fun o => (Below.refl _ _).alloc (Nat.le_refl _) o
  have g1 : ∀ o, (w.alloc o).cell? ⟨b + 1, 0, none⟩ = some (.int .i64 num) := fun o => ((hal o).cell (p := ⟨b + 1, 0, none⟩) (by simp <;> omega)).trans h1
  have g2 : ∀ o, (w.alloc o).cell? ⟨b + 2, 0, none⟩ = some (.int .i64 den) := fun o => ((hal o).cell (p := ⟨b + 2, 0, none⟩) (by simp <;> omega)).trans h2
  have g3 : ∀ o, (w.alloc o).cell? ⟨b + 3, 0, none⟩ = some (.int .i64 how) := fun o => ((hal o).cell (p := ⟨b + 3, 0, none⟩) (by simp <;> omega)).trans h3
  have g0 : ∀ o, (w.alloc o).cell? ⟨b, 0, none⟩ = some (.int .i64 a) := fun o => ((hal o).cell (p := ⟨b, 0, none⟩) (by simp <;> omega)).trans h0
  have HB : Hid (∀ o, Below w.heap.size w (w.alloc o)) := hal
  have C1 : Hid (okFix a) := c1
  obtain ⟨ha1, ha2⟩ := c1
  obtain ⟨e1, e2⟩ := c3
  obtain ⟨e3, e4⟩ := c3'
  have wa := absI_word (x := a) (by omega) (by omega)
  have wn := absI_word (x := num) (by omega) (by omega)
  have wd := absI_word (x := den) (by omega) (by omega)
  have WA : Hid (-9223372036854775808 ≤ a ∧ a ≤ 9223372036854775807) := ⟨by omega, by omega⟩
  have WN : Hid (-9223372036854775808 ≤ num ∧ num ≤ 9223372036854775807) := ⟨by omega, by omega⟩
  have WD : Hid (-9223372036854775808 ≤ den ∧ den ≤ 9223372036854775807) := ⟨by omega, by omega⟩
  have wp := mul_lt_128 wa wn
  have wh : Word (hiW (absI a * absI num)) := hiW_word wp.1 wp.2
  have d1 : decide ((-2147483648 : Int) ≤ num) = true := by simpa using e1
  have d2 : decide (num ≤ (2147483648 : Int)) = true := by simpa using e2
  have d3 : decide ((-2147483648 : Int) ≤ den) = true := by simpa using e3
  have d4 : decide (den ≤ (2147483648 : Int)) = true := by simpa using e4
  have d5 : (den != 0) = true := by simpa using c4
  have HR : Hid (quot (hiW (absI a * absI num)) (loW (absI a * absI num)) (absI den) (decide (a < 0) != (decide (num < 0) != decide (den < 0))) how = .ok v) := hr
  have G0 := g0 (.cells #[.int .i64 a] 22)
  have G1 := g1 (.cells #[.int .i64 a] 22)
  have G2 := g2 (.cells #[.int .i64 a] 22)
  clear hal h1 h2 h3 wp hr ha1 ha2
  go_enter Try.func77, Try.ntmps77
  go_wp2_with (first
      | (go_at_call 78; refine (right_yes w.heap.size 1 (fun _ => a) _ (by omega) (right_one (by simp [go_sem])) (fun _ _ => C1.out)).mono ?_; rintro e w' ⟨rfl, rfl⟩)
      | (go_at_call 79; refine (ways_yes how _ c2).mono ?_; rintro e w' ⟨rfl, rfl⟩)
      | (go_at_call 80; with_reducible refine (need_yes _ _).mono ?_; rintro e w' ⟨rfl, rfl⟩))
  go_region_held3 (fun w' => w'.cell? ⟨b, 0, none⟩ = some (.int .i64 a) ∧ w'.cell? ⟨b + 1, 0, none⟩ = some (.int .i64 num) ∧ w'.cell? ⟨b + 2, 0, none⟩ = some (.int .i64 den)) (first | exact ⟨m0, m1, m2⟩ | exact ⟨k0, k1, k2⟩ | simp [go_sem, G0, G1, G2])
    (first
      | (go_at_call 83; refine (size_c a _ WA.out.1 WA.out.2).mono ?_; rintro e w' ⟨rfl, rfl⟩)
      | (go_at_call_of 84 (Value.int .i64 num); refine (sizeInt_c num _ WN.out.1 WN.out.2).mono ?_; rintro e w' ⟨rfl, rfl⟩)
      | (go_at_call_of 84 (Value.int .i64 den); refine (sizeInt_c den _ WD.out.1 WD.out.2).mono ?_; rintro e w' ⟨rfl, rfl⟩)
      | (go_at_call 82; refine (product_c _ _ _ wa wn).mono ?_; rintro e w2 ⟨rfl, hbp⟩; have k0 := (hbp.cell (p := ⟨b, 0, none⟩) (by simp <;> omega)).trans G0; have k1 := (hbp.cell (p := ⟨b + 1, 0, none⟩) (by simp <;> omega)).trans G1; have k2 := (hbp.cell (p := ⟨b + 2, 0, none⟩) (by simp <;> omega)).trans G2)
      | (go_at_call 81; refine (quotient_c _ _ _ _ how _ c2 wh (loW_word _) wd).mono ?_; rintro e w3 ⟨rfl, hbq⟩; rw [neg3, HR.out]; simp only [endFix]; have hz2 : b + 3 < w2.heap.size := (by have hs := hbp.size; simp at hs; omega); have m0 := (hbq.cell (p := ⟨b, 0, none⟩) (by show b < _; omega)).trans k0; have m1 := (hbq.cell (p := ⟨b + 1, 0, none⟩) (by show b + 1 < _; omega)).trans k1; have m2 := (hbq.cell (p := ⟨b + 2, 0, none⟩) (by show b + 2 < _; omega)).trans k2))
  go_wp2
  go_ret
  refine ⟨rfl, ?_⟩
  have hs : w.heap.size + 1 ≤ w2.heap.size := by have := hbp.size; simp at this; exact this
  exact ((HB.out (.cells #[.int .i64 a] 22)).drew.trans (hbp.mono (by show w.heap.size ≤ (w.alloc _).heap.size; simp))).trans (hbq.mono (by omega))

/-- fixed.Scale, at valid numbers, where it has a result. -/
theorem scale_c (a num den how v : Int) (w : World) (c1 : okFix a) (c2 : Way how) (c3 : okRate num) (c3' : okRate den) (c4 : den ≠ 0) (hr : scaleX a num den how = .ok v) :
    Calls Try.prog 73 #[.int .i64 a, .int .i64 num, .int .i64 den, .int .i64 how] w fun e w' => e = .returned (.tuple #[.int .i64 v, .int .i64 0]) ∧ Below w.heap.size w w' := by
  have hmf : ∀ (fn : Fn) (first cap : Array Value) (w : World), (Instr.makeFunc fn first cap).run Try.prog w = .ok (.func fn first cap) w := fun _ _ _ _ => rfl
  have hen := enters_of Try.func77 (by kernel_rfl) rfl
  have HK : Hid (∀ (W w1 : World), W = (((w.alloc (.cells #[.int .i64 a] 22)).alloc (.cells #[.int .i64 num] 3)).alloc (.cells #[.int .i64 den] 3)).alloc (.cells #[.int .i64 how] 3) → Below W.heap.size W w1 →
      Calls Try.prog 77 #[.pointer (some ⟨w.heap.size, 0, none⟩), .pointer (some ⟨w.heap.size + 3, 0, none⟩), .pointer (some ⟨w.heap.size + 1, 0, none⟩), .pointer (some ⟨w.heap.size + 2, 0, none⟩)] w1 fun e w' => e = endFix (.ok v) ∧ Below w1.heap.size w1 w') := by
    rintro W w1 rfl hb
    have hs := hb.size
    simp at hs
    exact scale1_c w.heap.size a num den how v w1 ((hb.cell (p := ⟨w.heap.size, 0, none⟩) (by simp <;> omega)).trans (by simp [go_sem])) ((hb.cell (p := ⟨w.heap.size + 1, 0, none⟩) (by simp <;> omega)).trans (by simp [go_sem]))
      ((hb.cell (p := ⟨w.heap.size + 2, 0, none⟩) (by simp <;> omega)).trans (by simp [go_sem])) ((hb.cell (p := ⟨w.heap.size + 3, 0, none⟩) (by simp)).trans (by simp [go_sem])) (by omega) c1 c2 c3 c3' c4 hr
  have HE : Hid (∀ args w, (callFunc 77 args).run Try.prog w = .ok (.enter 77 args) w) := hen
  clear hen c4 hr
  go_enter Try.func73, Try.ntmps73
  go_wp2_with (go_at_call 76; refine (tried_c 77 _ HE.out (.ok v) _ (fun w1 hb => HK.out _ w1 rfl hb)).mono ?_; rintro e w1 ⟨rfl, hb1⟩; simp only [valF, errF])
  go_ret2
  refine ⟨rfl, ?_⟩
  exact (((((Below.refl _ _).alloc (Nat.le_refl _) _).alloc (by simp) _).alloc (by simp <;> omega) _).alloc (by simp <;> omega) _).trans (hb1.mono (by simp <;> omega))
end Go.Proofs.Ytleceelemogbcaa
