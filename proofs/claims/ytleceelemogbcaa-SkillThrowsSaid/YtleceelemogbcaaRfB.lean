/- The document's functions on brooms, calls, throws. -/
import Derived.Test.YtleceelemogbcaaRfA
namespace Go.Proofs.Ytleceelemogbcaa
open Go.RowKit

theorem in04_is (n lo hi : Int) (b : Bool) (w : World) (h : wB n lo hi = b) : Calls Try.prog 67 #[.int .i64 n, .int .i64 lo, .int .i64 hi] w fun e w' => e = .returned (.bool b) ∧ w' = w :=
  (in04_c n lo hi w).mono fun _ _ ⟨h1, h2⟩ => ⟨by rw [h1, h], h2.symm⟩

theorem below_drewN (w : World) (n B : Nat) : Below B w (w.drewN n) := ⟨rfl, rfl, rfl, Nat.le_refl _, fun _ _ => rfl⟩

set_option maxHeartbeats 2000000 in
theorem brooms04_c (l : List Brm) (v : Value) (w : World) (hv : Brms w v l) :
    Calls Try.prog 53 #[v] w fun e w' => e = .returned (.bool (broomsB l)) ∧ Below w.heap.size w w' := by
  rcases hv with ⟨q, cap, rfl, rfl⟩ | ⟨b, off, cap, rfl, h0, h1, h2⟩
  · go_enter Try.func53, Try.ntmps53
    go_wp2_with fail
    go_loop [3, 4] (fun i _ => i = .int .i64 0) (fun _ _ => 0)
    case atStart => rfl
    case round =>
      subst hrel
      go_wp2_with fail
      go_ret
      exact ⟨rfl, Below.refl _ _⟩
  · have hblt := lt_of_cell (h2 0 h0).1
    have H2 := Hid.mk' h2
    clear h2
    generalize hn : l.length = n at *
    have HN := Hid.mk' hn
    clear hn
    go_enter Try.func53, Try.ntmps53
    go_wp2_with fail
    go_loopw [3, 4] (fun i _ wr => ∃ k : Nat, k ≤ n ∧ i = .int .i64 k ∧ Below w.heap.size w wr ∧ Hid (∀ j, j < k → (bat l j).bad = false)) (fun i _ _ => n - (intOf i).toNat)
    case atStart => exact ⟨0, Nat.zero_le _, rfl, Below.refl _ _, fun j hj => by omega⟩
    case round =>
      obtain ⟨k, hk, rfl, hbel, hno⟩ := hrel
      by_cases hlt : k < n
      · obtain ⟨a0, a1, a2⟩ := H2.out k hlt
        have c0 := (hbel.cell (p := ⟨b, off + k * 3, none⟩) hblt).trans a0
        have c1 := (hbel.cell (p := ⟨b, off + k * 3 + 1, none⟩) hblt).trans a1
        have c2 := (hbel.cell (p := ⟨b, off + k * 3 + 2, none⟩) hblt).trans a2
        have hlti : (k : Int) < (n : Int) := by omega
        clear a0 a1 a2
        have hmem := bat_mem (l := l) (i := k) (by rw [HN.out]; exact hlt)
        have HM := Hid.mk' hmem
        clear hmem
        generalize hx : bat l k = x at *
        have HX := Hid.mk' hx
        clear hx
        obtain ⟨lo, hi, st⟩ := x
        simp only at c0 c1 c2
        have HBD : Hid ((Brm.mk lo hi st).bad = (!wB lo 0 hi || (decide (6000 < hi) || !wB st 0 1000))) := rfl
        have hfalse : (Brm.mk lo hi st).bad = true → broomsB l = false := fun h => by
          unfold broomsB
          rw [List.any_eq_true.2 ⟨_, HM.out, h⟩]; simp
        have HFA := Hid.mk' hfalse
        clear hfalse
        cases e1 : wB lo 0 hi
        · have H1 := Hid.mk' e1
          have HB : Hid (broomsB l = false) := HFA.out (by rw [HBD.out, e1]; rfl)
          clear e1
          go_wp2_with fail
          go_quiet ((go_at_call 67; exact Calls.quiet_of_same (in04_is _ _ _ _ _ H1.out)))
          go_wp2_with fail
          go_ret
          exact ⟨by rw [HB.out]; rfl, hbel.trans (below_drewN _ _ _)⟩
        have H1 := Hid.mk' e1
        clear e1
        cases e2 : decide (6000 < hi)
        case true =>
          have HB : Hid (broomsB l = false) := HFA.out (by rw [HBD.out, H1.out, e2]; rfl)
          go_wp2_with fail
          go_quiet ((go_at_call 67; exact Calls.quiet_of_same (in04_is _ _ _ _ _ H1.out)))
          go_wp2_with fail
          go_ret
          exact ⟨by rw [HB.out]; rfl, hbel.trans (below_drewN _ _ _)⟩
        cases e3 : wB st 0 1000
        · have H3 := Hid.mk' e3
          have HB : Hid (broomsB l = false) := HFA.out (by rw [HBD.out, H1.out, e2, e3]; rfl)
          clear e3
          go_wp2_with fail
          go_quiet ((go_at_call 67; first | exact Calls.quiet_of_same (in04_is _ _ _ _ _ H1.out) | exact Calls.quiet_of_same (in04_is _ _ _ _ _ H3.out)))
          go_wp2_with fail
          go_ret
          exact ⟨by rw [HB.out]; rfl, hbel.trans (below_drewN _ _ _)⟩
        · have H3 := Hid.mk' e3
          have HB : Hid ((Brm.mk lo hi st).bad = false) := by show _ = _; rw [HBD.out, H1.out, e2, e3]; rfl
          clear e3
          go_wp2_with fail
          go_quiet ((go_at_call 67; first | exact Calls.quiet_of_same (in04_is _ _ _ _ _ H1.out) | exact Calls.quiet_of_same (in04_is _ _ _ _ _ H3.out)))
          go_wp2_with fail
          go_roundw
          case rel => exact ⟨k + 1, by omega, by go_num, hbel.trans (below_drewN _ _ _), upto_succ hno.out (by rw [HX.out]; exact HB.out)⟩
          case measure => simp [intOf]; omega
      · have hall : l.any Brm.bad = false := by
          refine List.any_eq_false.2 fun x hx => ?_
          obtain ⟨j, hj, rfl⟩ := List.mem_iff_getElem.1 hx
          have := hno.out j (by have := HN.out; omega)
          rw [bat, List.getD_eq_getElem?_getD, List.getElem?_eq_getElem hj] at this
          simpa using this
        have hB : broomsB l = decide ((n : Int) ≤ 64) := by
          unfold broomsB
          rw [hall, HN.out]
          simp only [Bool.not_false, Bool.and_true, decide_eq_decide]; omega
        have HB := Hid.mk' hB
        clear hB hall
        go_wp2_with fail
        go_ret
        exact ⟨by rw [HB.out]; rfl, hbel⟩
end Go.Proofs.Ytleceelemogbcaa
