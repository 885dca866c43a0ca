/- Package skill: need, tried. -/
import Derived.Test.YtleceelemogbcaaSkG
namespace Go.Proofs.Ytleceelemogbcaa
open Go.RowKit

/-- Below block n all blocks but D are as they were. -/
structure Exc (n D : Nat) (w w' : World) : Prop where
  os : w'.os = w.os
  tape : w'.tape = w.tape
  output : w'.output = w.output
  size : w.heap.size ≤ w'.heap.size
  block : ∀ k, k < n → k ≠ D → w'.heap[k]? = w.heap[k]?

theorem Exc.of {n D : Nat} {w w' : World} (h : Below n w w') : Exc n D w w' := ⟨h.os, h.tape, h.output, h.size, fun k hk _ => h.block k hk⟩
theorem Exc.trans {n D : Nat} {a b c : World} (h : Exc n D a b) (k : Exc n D b c) : Exc n D a c :=
  ⟨k.os.trans h.os, k.tape.trans h.tape, k.output.trans h.output, Nat.le_trans h.size k.size, fun i hi hd => (k.block i hi hd).trans (h.block i hi hd)⟩
theorem Exc.mono {n m D : Nat} {w w' : World} (h : Exc n D w w') (hm : m ≤ n) : Exc m D w w' := ⟨h.os, h.tape, h.output, h.size, fun k hk hd => h.block k (Nat.lt_of_lt_of_le hk hm) hd⟩
theorem Exc.cell {n D : Nat} {w w' : World} (h : Exc n D w w') {p : Addr} (hp : p.block < n) (hd : p.block ≠ D) : w'.cell? p = w.cell? p := World.cell?_of_block (w := w) (h.block p.block hp hd)
theorem Exc.frozen {n D : Nat} {w w' : World} (h : Exc n D w w') {p : Addr} (hp : p.block < n) (hd : p.block ≠ D) : w'.frozen? p = w.frozen? p := World.frozen?_of_block (w := w) (h.block p.block hp hd)
theorem Exc.below {n D : Nat} {w w' : World} (h : Exc n D w w') (hn : n ≤ D) : Below n w w' := ⟨h.os, h.tape, h.output, h.size, fun k hk => h.block k hk (by omega)⟩

/-- The panic with which package skill ends its work. -/
def skPanic (e : Int) : List PanicEntry := [{ v := .iface 100 (.agg #[.int .i64 e]), recovered := false }]

theorem sneed_yes (e : Int) (w : World) : Calls Try.prog 52 #[.bool true, .int .i64 e] w fun r w' => r = .returned (.tuple #[]) ∧ w = w' := by
  go_enter Try.func52, Try.ntmps52
  go_wp2
  go_end0
  exact ⟨rfl, rfl⟩

theorem sneed_no (e : Int) (w : World) : Calls Try.prog 52 #[.bool false, .int .i64 e] w fun r w' => r = .panicked (skPanic e) ∧ w = w' := by
  go_enter Try.func52, Try.ntmps52
  go_wp2
  exact ⟨rfl, rfl, rfl⟩

theorem sassert_yes (c : Int) (w : World) : (Instr.typeAssert (.iface 100 (.agg #[.int .i64 c])) 20 100 true).run Try.prog w = .ok (.tuple #[.agg #[.int .i64 c], .bool true]) w := by kernel_rfl
theorem sassert_nil (w : World) : (Instr.typeAssert .nilIface 20 100 true).run Try.prog w = .ok (.tuple #[.agg #[.int .i64 0], .bool false]) w := by kernel_rfl

theorem stried1_panic (b : Nat) (x c : Int) (w : World) (hp : w.cell? ⟨b, 0, none⟩ = some (.int .i64 x)) (fp : w.frozen? ⟨b, 0, none⟩ = false) (hqb : b < w.heap.size) :
    CallsD Try.prog 51 #[.pointer (some ⟨b, 0, none⟩)] (.panicking (skPanic c)) w fun e u' w' =>
      e = .returned (.tuple #[]) ∧ u' = .panicking [{ v := .iface 100 (.agg #[.int .i64 c]), recovered := true }] ∧ w'.cell? ⟨b, 0, none⟩ = some (.int .i64 c) ∧ Exc w.heap.size b w w' := by
  refine callsD_of_wpS Try.func51 rfl fun c₀ cs hu => ?_
  apply wpS_seq
  apply wpS_region
  simp [wpOpsS, go_sem, recoverD, hu, skPanic, Try.ntmps51, Exit.thenS, Array.replicate, List.replicate]
  refine wpS_of_wp ?_
  clear hu
  have hta := fun w => sassert_yes c w
  have ha : ∀ o, Below w.heap.size w (w.alloc o) := fun o => (Below.refl _ _).alloc (Nat.le_refl _) o
  have hp' : ∀ o, (w.alloc o).cell? ⟨b, 0, none⟩ = some (.int .i64 x) := fun o => ((ha o).cell (p := ⟨b, 0, none⟩) hqb).trans hp
  have fp' : ∀ o, (w.alloc o).frozen? ⟨b, 0, none⟩ = false := fun o => ((ha o).frozen (p := ⟨b, 0, none⟩) hqb).trans fp
  clear ha
  go_wp2
  all_goals
    (try go_big_unhide)
    simp [bodyPostS, results, Try.results51, go_sem]
    have hz : (w.setCell ⟨b, 0, none⟩ (.int .i64 c)).heap.size = w.heap.size := by simp [World.setCell]
    have hal : ∀ o, Below w.heap.size (w.setCell ⟨b, 0, none⟩ (.int .i64 c)) ((w.setCell ⟨b, 0, none⟩ (.int .i64 c)).alloc o) := fun o => (Below.refl _ _).alloc (by rw [hz]; exact Nat.le_refl _) o
    refine ⟨((hal _).cell (p := ⟨b, 0, none⟩) hqb).trans (cell_set _ hp), Exc.trans (b := w.setCell ⟨b, 0, none⟩ (.int .i64 c)) ⟨rfl, rfl, rfl, by rw [hz]; exact Nat.le_refl _, fun k hk hd => Below.heap_setCell _ _ _ _ hd⟩ (Exc.of (hal _))⟩

theorem stried1_idle (b : Nat) (w : World) :
    CallsD Try.prog 51 #[.pointer (some ⟨b, 0, none⟩)] .returning w fun e u' w' =>
      e = .returned (.tuple #[]) ∧ u' = .returning ∧ Below w.heap.size w w' := by
  refine callsD_of_wpS Try.func51 rfl fun c₀ cs hu => ?_
  apply wpS_seq
  apply wpS_region
  simp [wpOpsS, go_sem, recoverD, hu, Try.ntmps51, Exit.thenS, Array.replicate, List.replicate]
  refine wpS_of_wp ?_
  have hta := fun w => sassert_nil w
  go_wp2
  all_goals
    simp [bodyPostS, results, Try.results51, go_sem]
    exact ⟨.returning, by cases c₀; simp_all, rfl, (Below.refl _ _).alloc (Nat.le_refl _) _⟩

theorem one_exc {w w1 : World} {c1 : Array Value} {t1 : TypeId} {D : Nat} (hD : D < w.heap.size) (hb : Exc (w.alloc (.cells c1 t1)).heap.size D (w.alloc (.cells c1 t1)) w1) :
    (∀ i, w1.cell? ⟨w.heap.size, i, none⟩ = c1[i]?) ∧ (∀ i, w1.frozen? ⟨w.heap.size, i, none⟩ = false) ∧ w.heap.size < w1.heap.size := by
  refine ⟨fun i => ?_, fun i => ?_, ?_⟩
  · rw [hb.cell (p := ⟨w.heap.size, i, none⟩) (by simp) (by show w.heap.size ≠ D; omega)]; simp [go_sem]
  · rw [hb.frozen (p := ⟨w.heap.size, i, none⟩) (by simp) (by show w.heap.size ≠ D; omega)]; simp [go_sem]
  · have := hb.size; simp at this; omega

set_option maxHeartbeats 1000000 in
/-- skill.tried, where the function returns: it has turned block D alone, so that Q. -/
theorem stried_ok (K : FuncId) (caps : Array Value) (D : Nat) (Q : World → Prop) (he : ∀ args w, (callFunc K args).run Try.prog w = .ok (.enter K args) w) (w : World) (hD : D < w.heap.size)
    (hQ : ∀ a b : World, b.heap[D]? = a.heap[D]? → Q a → Q b)
    (h : ∀ w1, Below w.heap.size w w1 → Calls Try.prog K caps w1 fun e w' => e = .returned (.tuple #[]) ∧ Exc w1.heap.size D w1 w' ∧ Q w') :
    Calls Try.prog 26 #[.func (.func K) #[] caps] w fun e w' => e = .returned (.int .i64 0) ∧ Exc w.heap.size D w w' ∧ Q w' := by
  have hmf : ∀ (fn : Fn) (first cap : Array Value) (w : World), (Instr.makeFunc fn first cap).run Try.prog w = .ok (.func fn first cap) w := fun _ _ _ _ => rfl
  have HH := Hid.mk' h
  have HQ := Hid.mk' hQ
  have hcall : ∀ w, (callFunc K caps).run Try.prog w = .ok (.enter K caps) w := fun w => he caps w
  clear h he hQ
  go_enter_defers Try.func26, Try.ntmps26
  go_wp2_with (go_at_fn K; refine (HH.out _ ((Below.refl _ _).alloc (Nat.le_refl _) _)).mono ?_; rintro e w1 ⟨rfl, hb1, hq⟩; obtain ⟨hc1, hf1, hz⟩ := one_exc hD hb1; have hd1 := hc1 0)
  refine leaves_cons (f := 51) (args := #[.pointer (some ⟨w.heap.size, 0, none⟩)]) (by simp) (by simp [go_sem]) ?_
  have hs : (w1.setCell ⟨w.heap.size, 0, none⟩ (.int .i64 0)).heap.size = w1.heap.size := by simp [World.setCell]
  refine (stried1_idle w.heap.size _).mono ?_
  rintro e u' w2 ⟨rfl, rfl, hb2⟩
  rw [hs] at hb2
  have g1 : w2.cell? ⟨w.heap.size, 0, none⟩ = some (.int .i64 0) := by
    rw [hb2.cell (p := ⟨w.heap.size, 0, none⟩) hz]
    exact cell_set _ hd1
  clear HH hcall hmf hc1 hf1 hd1
  simp [Leaves, settle, results, Try.results26, go_sem, g1]
  have hsc : Below w.heap.size w1 (w1.setCell ⟨w.heap.size, 0, none⟩ (.int .i64 0)) := (Below.refl w.heap.size w1).setCell (p := ⟨w.heap.size, 0, none⟩) (Nat.le_refl _) _
  refine ⟨((Exc.of ((Below.refl w.heap.size w).alloc (Nat.le_refl _) _)).trans (hb1.mono (by simp))).trans ((Exc.of hsc).trans (Exc.of (hb2.mono (by omega)))), ?_⟩
  exact HQ.out _ _ (hb2.block D (by omega)) (HQ.out _ _ (hsc.block D hD) hq)

set_option maxHeartbeats 1000000 in
/-- skill.tried, where the function panics. -/
theorem stried_err (K : FuncId) (caps : Array Value) (D : Nat) (c : Int) (Q : World → Prop) (he : ∀ args w, (callFunc K args).run Try.prog w = .ok (.enter K args) w) (w : World) (hD : D < w.heap.size)
    (hQ : ∀ a b : World, b.heap[D]? = a.heap[D]? → Q a → Q b)
    (h : ∀ w1, Below w.heap.size w w1 → Calls Try.prog K caps w1 fun e w' => e = .panicked (skPanic c) ∧ Exc w1.heap.size D w1 w' ∧ Q w') :
    Calls Try.prog 26 #[.func (.func K) #[] caps] w fun e w' => e = .returned (.int .i64 c) ∧ Exc w.heap.size D w w' ∧ Q w' := by
  have hmf : ∀ (fn : Fn) (first cap : Array Value) (w : World), (Instr.makeFunc fn first cap).run Try.prog w = .ok (.func fn first cap) w := fun _ _ _ _ => rfl
  have HH := Hid.mk' h
  have HQ := Hid.mk' hQ
  have hcall : ∀ w, (callFunc K caps).run Try.prog w = .ok (.enter K caps) w := fun w => he caps w
  clear h he hQ
  go_enter_defers Try.func26, Try.ntmps26
  go_wp2_with (go_at_fn K; refine (HH.out _ ((Below.refl _ _).alloc (Nat.le_refl _) _)).mono ?_; rintro e w1 ⟨rfl, hb1, hq⟩; obtain ⟨hc1, hf1, hz⟩ := one_exc hD hb1)
  refine leaves_cons (f := 51) (args := #[.pointer (some ⟨w.heap.size, 0, none⟩)]) (by simp) (by simp [go_sem]) ?_
  refine (stried1_panic w.heap.size 0 c _ (hc1 0) (hf1 0) hz).mono ?_
  rintro e u' w2 ⟨rfl, rfl, g1, hb2⟩
  clear HH hcall hmf hc1 hf1
  simp [Leaves, settle, results, Try.results26, go_sem, g1]
  refine ⟨((Exc.of ((Below.refl w.heap.size w).alloc (Nat.le_refl _) _)).trans (hb1.mono (by simp))).trans (Exc.of ((hb2.mono (by omega)).below (Nat.le_refl _))), ?_⟩
  exact HQ.out _ _ (hb2.block D (by omega) (by omega)) hq
end Go.Proofs.Ytleceelemogbcaa
