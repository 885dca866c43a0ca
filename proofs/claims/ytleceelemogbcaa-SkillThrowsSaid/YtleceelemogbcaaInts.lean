/- Slices of int that came in; slices.IndexFunc, ContainsFunc over them; the small functions of package skill. -/
import Derived.Test.YtleceelemogbcaaFixH
namespace Go.Proofs.Ytleceelemogbcaa
open Go.RowKit

/-- The number at a place. -/
def nth (xs : List Int) (i : Nat) : Int := xs.getD i 0

/-- v is a slice of int that reads as xs. -/
def Ints (w : World) (v : Value) (xs : List Int) : Prop :=
  (∃ p cap, v = .slice p 0 cap ∧ xs = []) ∨
  (∃ b off cap, v = .slice (some ⟨b, off, none⟩) xs.length cap ∧ 0 < xs.length ∧ xs.length ≤ 9223372036854775807 ∧ (∀ i, i < xs.length → w.cell? ⟨b, off + i, none⟩ = some (.int .i64 (nth xs i))) ∧ (∀ x ∈ xs, -9223372036854775808 ≤ x ∧ x ≤ 9223372036854775807))

theorem lt_of_cell {w : World} {b o : Nat} {s : Option Nat} {v : Value} (h : w.cell? ⟨b, o, s⟩ = some v) : b < w.heap.size := by
  rcases Nat.lt_or_ge b w.heap.size with hb | hb
  · exact hb
  · simp [World.cell?, Array.getElem?_eq_none hb] at h

theorem Ints.below {w w' : World} {v : Value} {xs : List Int} {B : Nat} (h : Ints w v xs) (hb : Below B w w') (hB : w.heap.size ≤ B) : Ints w' v xs := by
  rcases h with h | ⟨b, off, cap, rfl, h0, h1, h2, h3⟩
  · exact .inl h
  · refine .inr ⟨b, off, cap, rfl, h0, h1, fun i hi => ?_, h3⟩
    have := lt_of_cell (h2 i hi)
    rw [hb.cell (p := ⟨b, off + i, none⟩) (by show b < B; omega)]
    exact h2 i hi

theorem getD_mem {xs : List Int} {i : Nat} (h : i < xs.length) : nth xs i ∈ xs := by
  rw [nth, List.getD_eq_getElem?_getD, List.getElem?_eq_getElem h]
  simp

theorem Ints.len_le {w : World} {v : Value} {xs : List Int} (h : Ints w v xs) : xs.length ≤ 9223372036854775807 := by
  rcases h with ⟨_, _, _, rfl⟩ | ⟨_, _, _, _, _, h1, _⟩
  · simp
  · exact h1

/-- A function value that is pure on ints. -/
def PureFn (K : FuncId) (caps : Array Value) (xs : List Int) (p : Int → Bool) : Prop :=
  (∀ args w, (callFunc K args).run Try.prog w = .ok (.enter K args) w) ∧ ∀ x ∈ xs, ∀ w, Calls Try.prog K (#[.int .i64 x] ++ caps) w fun e w' => e = .returned (.bool (p x)) ∧ w = w'

/-- The place of the first one, or -1. -/
def idxI (p : Int → Bool) : List Int → Int
  | [] => -1
  | x :: r => if p x then 0 else if idxI p r < 0 then -1 else idxI p r + 1

theorem idxI_none {p : Int → Bool} : ∀ {xs : List Int}, (∀ x ∈ xs, p x = false) → idxI p xs = -1
  | [], _ => rfl
  | x :: r, h => by
    have h1 := h x (by simp)
    have h2 := idxI_none (xs := r) (fun y hy => h y (by simp [hy]))
    simp [idxI, h1, h2]

theorem idxI_some {p : Int → Bool} : ∀ {xs : List Int} (k : Nat), k < xs.length → (∀ j, j < k → p (nth xs j) = false) → p (nth xs k) = true → idxI p xs = k
  | [], k, h, _, _ => by simp at h
  | x :: r, 0, _, _, h => by
    have : p x = true := by simpa [nth] using h
    simp [idxI, this]
  | x :: r, k + 1, h, h1, h2 => by
    have hx : p x = false := by simpa [nth] using h1 0 (by omega)
    have := idxI_some (xs := r) k (by simpa using h) (fun j hj => by simpa [nth] using h1 (j + 1) (by omega)) (by simpa [nth] using h2)
    simp [idxI, hx, this]
    omega

theorem idxI_any_iff (p : Int → Bool) : ∀ xs : List Int, 0 ≤ idxI p xs ↔ xs.any p = true
  | [] => by simp [idxI]
  | x :: r => by
    have ih := idxI_any_iff p r
    have e : idxI p (x :: r) = if p x then 0 else if idxI p r < 0 then -1 else idxI p r + 1 := rfl
    rw [e, List.any_cons]
    by_cases h : p x = true
    · simp [h]
    · simp only [Bool.not_eq_true] at h
      rw [h, Bool.false_or, ← ih]
      simp only [Bool.false_eq_true, if_false]
      split <;> omega

theorem idxI_any (p : Int → Bool) (xs : List Int) : decide (0 ≤ idxI p xs) = xs.any p := by
  rw [Bool.eq_iff_iff, decide_eq_true_eq]
  exact idxI_any_iff p xs


set_option maxHeartbeats 1000000 in
/-- slices.IndexFunc. -/
theorem indexFunc_c (K : FuncId) (caps : Array Value) (xs : List Int) (p : Int → Bool) (v : Value) (w : World) (hf : PureFn K caps xs p) (hv : Ints w v xs) :
    Calls Try.prog 72 #[v, .func (.func K) #[] caps] w fun e w' => e = .returned (.int .i64 (idxI p xs)) ∧ w = w' := by
  obtain ⟨hen, hp⟩ := hf
  have HP : Hid (∀ x ∈ xs, ∀ w, Calls Try.prog K (#[.int .i64 x] ++ caps) w fun e w' => e = .returned (.bool (p x)) ∧ w = w') := hp
  have hcall : ∀ x w, (callFunc K (#[x] ++ caps)).run Try.prog w = .ok (.enter K (#[x] ++ caps)) w := fun x w => hen _ w
  clear hp hen
  rcases hv with ⟨q, cap, rfl, rfl⟩ | ⟨b, off, cap, rfl, h0, h1, h2, h3⟩
  · go_enter Try.func72, Try.ntmps72
    go_wp2_with fail
    go_loop [5, 8] (fun _ i => i = .int .i64 0) (fun _ _ => 0)
    case atStart => rfl
    case round =>
      subst hrel
      go_wp2_with fail
      go_ret
      exact ⟨rfl, rfl⟩
  · have H2 : Hid (∀ i, i < xs.length → w.cell? ⟨b, off + i, none⟩ = some (.int .i64 (nth xs i))) := h2
    have H3 : Hid (∀ x ∈ xs, -9223372036854775808 ≤ x ∧ x ≤ 9223372036854775807) := h3
    clear h2 h3
    generalize hn : xs.length = n at *
    have HN : Hid (xs.length = n) := hn
    clear hn
    go_enter Try.func72, Try.ntmps72
    go_wp2_with fail
    go_loop [5, 8] (fun _ i => ∃ k : Nat, k ≤ n ∧ i = .int .i64 k ∧ Hid (∀ j, j < k → p (nth xs j) = false)) (fun _ i => n - (intOf i).toNat)
    case atStart => exact ⟨0, Nat.zero_le _, rfl, fun j hj => by omega⟩
    case round =>
      obtain ⟨k, hk, rfl, hno⟩ := hrel
      by_cases hlt : k < n
      · have hc := H2.out k hlt
        have hmem := getD_mem (xs := xs) (i := k) (by rw [HN.out]; exact hlt)
        have hb := HP.out _ hmem
        generalize hx : nth xs k = x at *
        have HX : Hid (nth xs k = x) := hx
        have HB : Hid (∀ w, Calls Try.prog K (#[.int .i64 x] ++ caps) w fun e w' => e = .returned (.bool (p x)) ∧ w = w') := hb
        clear hx hb hmem
        cases hpx : p x
        · have HPX : Hid (p x = false) := hpx
          rw [hpx] at HB
          clear hpx
          go_wp2_with (go_at_fn K; refine (HB.out _).mono ?_; rintro e w' ⟨rfl, rfl⟩)
          go_round
          case rel =>
            refine ⟨k + 1, by omega, by go_num, fun j hj => ?_⟩
            rcases Nat.lt_or_ge j k with h | h
            · exact hno.out j h
            · obtain rfl : j = k := by omega
              rw [HX.out]; exact HPX.out
          case measure => simp [intOf]; omega
        · have HPX : Hid (p x = true) := hpx
          rw [hpx] at HB
          clear hpx
          go_wp2_with (go_at_fn K; refine (HB.out _).mono ?_; rintro e w' ⟨rfl, rfl⟩)
          go_ret
          exact ⟨ret_i64 (idxI_some k (by rw [HN.out]; exact hlt) hno.out (by rw [HX.out]; exact HPX.out)).symm, rfl⟩
      · go_wp2_with fail
        go_ret
        refine ⟨ret_i64 (idxI_none fun x hx => ?_).symm, rfl⟩
        obtain ⟨j, hj, rfl⟩ := List.mem_iff_getElem.1 hx
        have := hno.out j (by have := HN.out; omega)
        rw [nth, List.getD_eq_getElem?_getD, List.getElem?_eq_getElem hj] at this
        simpa using this

/-- slices.ContainsFunc. -/
theorem containsFunc_c (K : FuncId) (caps : Array Value) (xs : List Int) (p : Int → Bool) (v : Value) (w : World) (hf : PureFn K caps xs p) (hv : Ints w v xs) :
    Calls Try.prog 62 #[v, .func (.func K) #[] caps] w fun e w' => e = .returned (.bool (xs.any p)) ∧ w = w' := by
  rw [← idxI_any]
  have HF : Hid (PureFn K caps xs p) := hf
  have HV : Hid (Ints w v xs) := hv
  clear hf hv
  generalize hg : idxI p xs = g at *
  have HG : Hid (idxI p xs = g) := hg
  clear hg
  go_enter Try.func62, Try.ntmps62
  go_wp2_with (go_at_call 72; refine (indexFunc_c K caps xs p v _ HF.out HV.out).mono ?_; rintro e w' ⟨rfl, rfl⟩; rw [HG.out])
  go_ret
  exact ⟨rfl, rfl⟩

set_option maxHeartbeats 1000000 in
/-- slices.IndexFunc. -/
theorem indexFuncFix_c (K : FuncId) (caps : Array Value) (xs : List Int) (p : Int → Bool) (v : Value) (w : World) (hf : PureFn K caps xs p) (hv : Ints w v xs) :
    Calls Try.prog 64 #[v, .func (.func K) #[] caps] w fun e w' => e = .returned (.int .i64 (idxI p xs)) ∧ w = w' := by
  obtain ⟨hen, hp⟩ := hf
  have HP : Hid (∀ x ∈ xs, ∀ w, Calls Try.prog K (#[.int .i64 x] ++ caps) w fun e w' => e = .returned (.bool (p x)) ∧ w = w') := hp
  have hcall : ∀ x w, (callFunc K (#[x] ++ caps)).run Try.prog w = .ok (.enter K (#[x] ++ caps)) w := fun x w => hen _ w
  clear hp hen
  rcases hv with ⟨q, cap, rfl, rfl⟩ | ⟨b, off, cap, rfl, h0, h1, h2, h3⟩
  · go_enter Try.func64, Try.ntmps64
    go_wp2_with fail
    go_loop [5, 8] (fun _ i => i = .int .i64 0) (fun _ _ => 0)
    case atStart => rfl
    case round =>
      subst hrel
      go_wp2_with fail
      go_ret
      exact ⟨rfl, rfl⟩
  · have H2 : Hid (∀ i, i < xs.length → w.cell? ⟨b, off + i, none⟩ = some (.int .i64 (nth xs i))) := h2
    have H3 : Hid (∀ x ∈ xs, -9223372036854775808 ≤ x ∧ x ≤ 9223372036854775807) := h3
    clear h2 h3
    generalize hn : xs.length = n at *
    have HN : Hid (xs.length = n) := hn
    clear hn
    go_enter Try.func64, Try.ntmps64
    go_wp2_with fail
    go_loop [5, 8] (fun _ i => ∃ k : Nat, k ≤ n ∧ i = .int .i64 k ∧ Hid (∀ j, j < k → p (nth xs j) = false)) (fun _ i => n - (intOf i).toNat)
    case atStart => exact ⟨0, Nat.zero_le _, rfl, fun j hj => by omega⟩
    case round =>
      obtain ⟨k, hk, rfl, hno⟩ := hrel
      by_cases hlt : k < n
      · have hc := H2.out k hlt
        have hmem := getD_mem (xs := xs) (i := k) (by rw [HN.out]; exact hlt)
        have hb := HP.out _ hmem
        generalize hx : nth xs k = x at *
        have HX : Hid (nth xs k = x) := hx
        have HB : Hid (∀ w, Calls Try.prog K (#[.int .i64 x] ++ caps) w fun e w' => e = .returned (.bool (p x)) ∧ w = w') := hb
        clear hx hb hmem
        cases hpx : p x
        · have HPX : Hid (p x = false) := hpx
          rw [hpx] at HB
          clear hpx
          go_wp2_with (go_at_fn K; refine (HB.out _).mono ?_; rintro e w' ⟨rfl, rfl⟩)
          go_round
          case rel =>
            refine ⟨k + 1, by omega, by go_num, fun j hj => ?_⟩
            rcases Nat.lt_or_ge j k with h | h
            · exact hno.out j h
            · obtain rfl : j = k := by omega
              rw [HX.out]; exact HPX.out
          case measure => simp [intOf]; omega
        · have HPX : Hid (p x = true) := hpx
          rw [hpx] at HB
          clear hpx
          go_wp2_with (go_at_fn K; refine (HB.out _).mono ?_; rintro e w' ⟨rfl, rfl⟩)
          go_ret
          exact ⟨ret_i64 (idxI_some k (by rw [HN.out]; exact hlt) hno.out (by rw [HX.out]; exact HPX.out)).symm, rfl⟩
      · go_wp2_with fail
        go_ret
        refine ⟨ret_i64 (idxI_none fun x hx => ?_).symm, rfl⟩
        obtain ⟨j, hj, rfl⟩ := List.mem_iff_getElem.1 hx
        have := hno.out j (by have := HN.out; omega)
        rw [nth, List.getD_eq_getElem?_getD, List.getElem?_eq_getElem hj] at this
        simpa using this

/-- slices.ContainsFunc. -/
theorem containsFuncFix_c (K : FuncId) (caps : Array Value) (xs : List Int) (p : Int → Bool) (v : Value) (w : World) (hf : PureFn K caps xs p) (hv : Ints w v xs) :
    Calls Try.prog 42 #[v, .func (.func K) #[] caps] w fun e w' => e = .returned (.bool (xs.any p)) ∧ w = w' := by
  rw [← idxI_any]
  have HF : Hid (PureFn K caps xs p) := hf
  have HV : Hid (Ints w v xs) := hv
  clear hf hv
  generalize hg : idxI p xs = g at *
  have HG : Hid (idxI p xs = g) := hg
  clear hg
  go_enter Try.func42, Try.ntmps42
  go_wp2_with (go_at_call 64; refine (indexFuncFix_c K caps xs p v _ HF.out HV.out).mono ?_; rintro e w' ⟨rfl, rfl⟩; rw [HG.out])
  go_ret
  exact ⟨rfl, rfl⟩

end Go.Proofs.Ytleceelemogbcaa
