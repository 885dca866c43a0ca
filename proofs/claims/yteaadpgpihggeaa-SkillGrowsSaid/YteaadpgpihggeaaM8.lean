/- Parts of the proof, in build order. -/
import Derived.Test.YteaadpgpihggeaaM7
import Derived.Lib.MinMax
namespace Go.Proofs.Yteaadpgpihggeaa
open Go.RowKit
theorem cells_kept {w w' : World} {B n : Nat} {cs : Array Value} (h : ∀ i, w.cell? ⟨B, i, none⟩ = cs[i]?) (hb : Below n w w') (hB : B < n) : ∀ i, w'.cell? ⟨B, i, none⟩ = cs[i]? :=
  fun i => (hb.cell (p := ⟨B, i, none⟩) hB).trans (h i)
def Cal.ok (c : Cal) : Bool := c.body.ok && (!c.body.rests && (broomsB c.l && (wB c.stx 0 8192000 && wB c.sty 0 8192000)))
set_option maxHeartbeats 2000000 in
theorem checkCall_c (c : Cal) (bv : Value) (w : World) (hl : Brms w bv c.l) :
    Calls Try.prog 22 #[.agg (c.cells bv)] w fun e w' => e = .returned (.int .i64 (errB c.ok)) ∧ Below w.heap.size w w' := by
  obtain ⟨team, n, ⟨ax, ay, sx, sy, spin⟩, l, stx, sty⟩ := c
  have HL : Hid (∀ w', Below w.heap.size w w' → Brms w' bv l) := fun w' hb => hl.below hb (Nat.le_refl _)
  obtain ⟨q, cap, rfl⟩ := hl.shape
  clear hl
  simp only at HL
  generalize hln : l.length = ln at *
  clear hln
  obtain ⟨k, hk⟩ : ∃ k, Cal.ok ⟨team, n, ⟨ax, ay, sx, sy, spin⟩, l, stx, sty⟩ = k := ⟨_, rfl⟩
  rw [hk]
  unfold Cal.ok at hk
  unfold Cal.cells
  simp only
  cases e1 : (Cal.body ⟨team, n, ⟨ax, ay, sx, sy, spin⟩, l, stx, sty⟩).ok
  case false =>
    rw [e1] at hk
    have HK : Hid (k = false) := hk.symm
    have H1 := Hid.mk' e1
    clear hk e1
    go_enter Try.func22, Try.ntmps22
    go_wp2_with (first
      | (go_at_call 31; refine (sbody_c ⟨team, n, ⟨ax, ay, sx, sy, spin⟩, l, stx, sty⟩ _ _).mono ?_; rintro e w1 ⟨rfl, hb1⟩; obtain ⟨hc1, hc2, hf1, hf2, hz⟩ := two_new hb1; have hbw : Below w.heap.size w w1 := (((Below.refl _ _).alloc (Nat.le_refl _) _).alloc (by simp) _).trans (hb1.mono (by simp <;> omega)); clear hc1 hf1 hf2)
      | (go_at_call 30; refine (svalid_c _ _ rfl).mono ?_; rintro e w2 ⟨rfl, hb2⟩; rw [H1.out]; have k2 := cells_kept hc2 hb2 hz; have a4 := k2 4; have a5 := k2 5; have a7 := k2 7; have hbw2 : Below w.heap.size w w2 := hbw.trans (hb2.mono hbw.size); have hz2 : w.heap.size + 1 < w2.heap.size := Nat.lt_of_lt_of_le hz hb2.size; clear hc2))
    go_ret
    exact ⟨by rw [HK.out]; rfl, hbw2⟩
  rw [e1] at hk
  have H1 := Hid.mk' e1
  clear e1
  by_cases hs : sx = 0 ∧ sy = 0
  case pos =>
    obtain ⟨rfl, rfl⟩ := hs
    have HK : Hid (k = false) := by rw [← hk]; rfl
    clear hk
    go_enter Try.func22, Try.ntmps22
    go_wp2_with (first
      | (go_at_call 31; refine (sbody_c ⟨team, n, ⟨ax, ay, 0, 0, spin⟩, l, stx, sty⟩ _ _).mono ?_; rintro e w1 ⟨rfl, hb1⟩; obtain ⟨hc1, hc2, hf1, hf2, hz⟩ := two_new hb1; have hbw : Below w.heap.size w w1 := (((Below.refl _ _).alloc (Nat.le_refl _) _).alloc (by simp) _).trans (hb1.mono (by simp <;> omega)); clear hc1 hf1 hf2)
      | (go_at_call 30; refine (svalid_c _ _ rfl).mono ?_; rintro e w2 ⟨rfl, hb2⟩; rw [H1.out]; have k2 := cells_kept hc2 hb2 hz; have a4 := k2 4; have a5 := k2 5; have a7 := k2 7; have hbw2 : Below w.heap.size w w2 := hbw.trans (hb2.mono hbw.size); have hz2 : w.heap.size + 1 < w2.heap.size := Nat.lt_of_lt_of_le hz hb2.size; clear hc2))
    go_ret
    exact ⟨by rw [HK.out]; rfl, hbw2⟩
  have hr : (Cal.body ⟨team, n, ⟨ax, ay, sx, sy, spin⟩, l, stx, sty⟩).rests = false := by
    show (sx == 0 && sy == 0) = false
    by_cases h0 : sx = 0
    · have : ¬ sy = 0 := fun h => hs ⟨h0, h⟩
      simp [this]
    · simp [h0]
  rw [hr] at hk
  clear hr
  have hs' : (sx == 0) = false ∨ ((sx == 0) = true ∧ (sy == 0) = false) := by
    by_cases h0 : sx = 0
    · right
      have : ¬ sy = 0 := fun h => hs ⟨h0, h⟩
      simp [h0, this]
    · left; simp [h0]
  clear hs
  cases e3 : broomsB l
  case false =>
    rw [e3] at hk
    have HK : Hid (k = false) := hk.symm
    have H3 := Hid.mk' e3
    clear hk e3
    rcases hs' with hs | ⟨hs0, hs⟩
    all_goals
      go_enter Try.func22, Try.ntmps22
      go_wp2_with (first
      | (go_at_call 31; refine (sbody_c ⟨team, n, ⟨ax, ay, sx, sy, spin⟩, l, stx, sty⟩ _ _).mono ?_; rintro e w1 ⟨rfl, hb1⟩; obtain ⟨hc1, hc2, hf1, hf2, hz⟩ := two_new hb1; have hbw : Below w.heap.size w w1 := (((Below.refl _ _).alloc (Nat.le_refl _) _).alloc (by simp) _).trans (hb1.mono (by simp <;> omega)); clear hc1 hf1 hf2)
      | (go_at_call 30; refine (svalid_c _ _ rfl).mono ?_; rintro e w2 ⟨rfl, hb2⟩; rw [H1.out]; have k2 := cells_kept hc2 hb2 hz; have a4 := k2 4; have a5 := k2 5; have a7 := k2 7; have hbw2 : Below w.heap.size w w2 := hbw.trans (hb2.mono hbw.size); have hz2 : w.heap.size + 1 < w2.heap.size := Nat.lt_of_lt_of_le hz hb2.size; clear hc2)
      | (go_at_call 32; refine (checkBrooms_c l _ _ (HL.out _ hbw2)).mono ?_; rintro e w3 ⟨rfl, hb3⟩; rw [H3.out]; simp only [errB]; have k3 := cells_kept k2 hb3 hz2; have b8 := k3 8; have b9 := k3 9; have hbw3 : Below w.heap.size w w3 := hbw2.trans (hb3.mono hbw2.size); clear k2 k3 a4 a5 a7))
      go_ret
      exact ⟨by rw [HK.out]; rfl, hbw3⟩
  rw [e3] at hk
  have H3 := Hid.mk' e3
  clear e3
  cases e4 : wB stx 0 8192000
  case false =>
    rw [e4] at hk
    have HK : Hid (k = false) := hk.symm
    have H4 := Hid.mk' e4
    clear hk e4
    rcases hs' with hs | ⟨hs0, hs⟩
    all_goals
      go_enter Try.func22, Try.ntmps22
      go_wp2_with (first
      | (go_at_call 31; refine (sbody_c ⟨team, n, ⟨ax, ay, sx, sy, spin⟩, l, stx, sty⟩ _ _).mono ?_; rintro e w1 ⟨rfl, hb1⟩; obtain ⟨hc1, hc2, hf1, hf2, hz⟩ := two_new hb1; have hbw : Below w.heap.size w w1 := (((Below.refl _ _).alloc (Nat.le_refl _) _).alloc (by simp) _).trans (hb1.mono (by simp <;> omega)); clear hc1 hf1 hf2)
      | (go_at_call 30; refine (svalid_c _ _ rfl).mono ?_; rintro e w2 ⟨rfl, hb2⟩; rw [H1.out]; have k2 := cells_kept hc2 hb2 hz; have a4 := k2 4; have a5 := k2 5; have a7 := k2 7; have hbw2 : Below w.heap.size w w2 := hbw.trans (hb2.mono hbw.size); have hz2 : w.heap.size + 1 < w2.heap.size := Nat.lt_of_lt_of_le hz hb2.size; clear hc2)
      | (go_at_call 32; refine (checkBrooms_c l _ _ (HL.out _ hbw2)).mono ?_; rintro e w3 ⟨rfl, hb3⟩; rw [H3.out]; simp only [errB]; have k3 := cells_kept k2 hb3 hz2; have b8 := k3 8; have b9 := k3 9; have hbw3 : Below w.heap.size w w3 := hbw2.trans (hb3.mono hbw2.size); clear k2 k3 a4 a5 a7)
      | (go_at_call_of 14 (Value.int .i64 stx); refine (withinFix_c stx _ _ _).mono ?_; rintro e w' ⟨rfl, rfl⟩; rw [H4.out]))
      go_ret
      exact ⟨by rw [HK.out]; rfl, hbw3⟩
  rw [e4] at hk
  have H4 := Hid.mk' e4
  clear e4
  cases e5 : wB sty 0 8192000
  all_goals
    rw [e5] at hk
    have HK : Hid (k = _) := hk.symm
    have H5 := Hid.mk' e5
    clear hk e5
    rcases hs' with hs | ⟨hs0, hs⟩
    all_goals
      go_enter Try.func22, Try.ntmps22
      go_wp2_with (first
      | (go_at_call 31; refine (sbody_c ⟨team, n, ⟨ax, ay, sx, sy, spin⟩, l, stx, sty⟩ _ _).mono ?_; rintro e w1 ⟨rfl, hb1⟩; obtain ⟨hc1, hc2, hf1, hf2, hz⟩ := two_new hb1; have hbw : Below w.heap.size w w1 := (((Below.refl _ _).alloc (Nat.le_refl _) _).alloc (by simp) _).trans (hb1.mono (by simp <;> omega)); clear hc1 hf1 hf2)
      | (go_at_call 30; refine (svalid_c _ _ rfl).mono ?_; rintro e w2 ⟨rfl, hb2⟩; rw [H1.out]; have k2 := cells_kept hc2 hb2 hz; have a4 := k2 4; have a5 := k2 5; have a7 := k2 7; have hbw2 : Below w.heap.size w w2 := hbw.trans (hb2.mono hbw.size); have hz2 : w.heap.size + 1 < w2.heap.size := Nat.lt_of_lt_of_le hz hb2.size; clear hc2)
      | (go_at_call 32; refine (checkBrooms_c l _ _ (HL.out _ hbw2)).mono ?_; rintro e w3 ⟨rfl, hb3⟩; rw [H3.out]; simp only [errB]; have k3 := cells_kept k2 hb3 hz2; have b8 := k3 8; have b9 := k3 9; have hbw3 : Below w.heap.size w w3 := hbw2.trans (hb3.mono hbw2.size); clear k2 k3 a4 a5 a7)
      | (go_at_call_of 14 (Value.int .i64 stx); refine (withinFix_c stx _ _ _).mono ?_; rintro e w' ⟨rfl, rfl⟩; rw [H4.out])
      | (go_at_call_of 14 (Value.int .i64 sty); refine (withinFix_c sty _ _ _).mono ?_; rintro e w' ⟨rfl, rfl⟩; rw [H5.out]))
      go_ret
      exact ⟨by rw [HK.out]; rfl, hbw3⟩
end Go.Proofs.Yteaadpgpihggeaa

namespace Go.Proofs.Yteaadpgpihggeaa
open Go.RowKit
structure Exc (n D : Nat) (w w' : World) : Prop where
  os : w'.os = w.os
  tape : w'.tape = w.tape
  output : w'.output = w.output
  size : w.heap.size ≤ w'.heap.size
  block : ∀ k, k < n → k ≠ D → w'.heap[k]? = w.heap[k]?
theorem Exc.of {n D : Nat} {w w' : World} (h : Below n w w') : Exc n D w w' := ⟨h.os, h.tape, h.output, h.size, fun k hk _ => h.block k hk⟩
theorem Exc.trans {n D : Nat} {a b c : World} (h : Exc n D a b) (k : Exc n D b c) : Exc n D a c :=
  ⟨k.os.trans h.os, k.tape.trans h.tape, k.output.trans h.output, Nat.le_trans h.size k.size, fun i hi hd => (k.block i hi hd).trans (h.block i hi hd)⟩
theorem Exc.mono {n m D : Nat} {w w' : World} (h : Exc n D w w') (hm : m ≤ n) : Exc m D w w' := ⟨h.os, h.tape, h.output, h.size, fun k hk hd => h.block k (Nat.lt_of_lt_of_le hk hm) hd⟩
theorem Exc.cell {n D : Nat} {w w' : World} (h : Exc n D w w') {p : Addr} (hp : p.block < n) (hd : p.block ≠ D) : w'.cell? p = w.cell? p := World.cell?_of_block (w := w) (h.block p.block hp hd)
theorem Exc.frozen {n D : Nat} {w w' : World} (h : Exc n D w w') {p : Addr} (hp : p.block < n) (hd : p.block ≠ D) : w'.frozen? p = w.frozen? p := World.frozen?_of_block (w := w) (h.block p.block hp hd)
theorem Exc.below {n D : Nat} {w w' : World} (h : Exc n D w w') (hn : n ≤ D) : Below n w w' := ⟨h.os, h.tape, h.output, h.size, fun k hk => h.block k hk (by omega)⟩
def skPanic (e : Int) : List PanicEntry := [{ v := .iface 76 (.agg #[.int .i64 e]), recovered := false }]
theorem sneed_yes (e : Int) (w : World) : Calls Try.prog 34 #[.bool true, .int .i64 e] w fun r w' => r = .returned (.tuple #[]) ∧ w = w' := by
  go_enter Try.func34, Try.ntmps34
  go_wp2
  go_end0
  exact ⟨rfl, rfl⟩
theorem sneed_no (e : Int) (w : World) : Calls Try.prog 34 #[.bool false, .int .i64 e] w fun r w' => r = .panicked (skPanic e) ∧ w = w' := by
  go_enter Try.func34, Try.ntmps34
  go_wp2
  exact ⟨rfl, rfl, rfl⟩
theorem sassert_yes (c : Int) (w : World) : (Instr.typeAssert (.iface 76 (.agg #[.int .i64 c])) 20 76 true).run Try.prog w = .ok (.tuple #[.agg #[.int .i64 c], .bool true]) w := by kernel_rfl
theorem sassert_nil (w : World) : (Instr.typeAssert .nilIface 20 76 true).run Try.prog w = .ok (.tuple #[.agg #[.int .i64 0], .bool false]) w := by kernel_rfl
theorem stried1_panic (b : Nat) (x c : Int) (w : World) (hp : w.cell? ⟨b, 0, none⟩ = some (.int .i64 x)) (fp : w.frozen? ⟨b, 0, none⟩ = false) (hqb : b < w.heap.size) :
    CallsD Try.prog 33 #[.pointer (some ⟨b, 0, none⟩)] (.panicking (skPanic c)) w fun e u' w' =>
      e = .returned (.tuple #[]) ∧ u' = .panicking [{ v := .iface 76 (.agg #[.int .i64 c]), recovered := true }] ∧ w'.cell? ⟨b, 0, none⟩ = some (.int .i64 c) ∧ Exc w.heap.size b w w' := by
  refine callsD_of_wpS Try.func33 rfl fun c₀ cs hu => ?_
  apply wpS_seq
  apply wpS_region
  simp [wpOpsS, go_sem, recoverD, hu, skPanic, Try.ntmps33, Exit.thenS, Array.replicate, List.replicate]
  refine wpS_of_wp ?_
  clear hu
  have hta := fun w => sassert_yes c w
  have ha : ∀ o, Below w.heap.size w (w.alloc o) := fun o => (Below.refl _ _).alloc (Nat.le_refl _) o
  have hp' : ∀ o, (w.alloc o).cell? ⟨b, 0, none⟩ = some (.int .i64 x) := fun o => ((ha o).cell (p := ⟨b, 0, none⟩) hqb).trans hp
  have fp' : ∀ o, (w.alloc o).frozen? ⟨b, 0, none⟩ = false := fun o => ((ha o).frozen (p := ⟨b, 0, none⟩) hqb).trans fp
  clear ha
  go_wp2
  all_goals
    (try go_big_unhide)
    simp [bodyPostS, results, Try.results33, go_sem]
    have hz : (w.setCell ⟨b, 0, none⟩ (.int .i64 c)).heap.size = w.heap.size := by simp [World.setCell]
    have hal : ∀ o, Below w.heap.size (w.setCell ⟨b, 0, none⟩ (.int .i64 c)) ((w.setCell ⟨b, 0, none⟩ (.int .i64 c)).alloc o) := fun o => (Below.refl _ _).alloc (by rw [hz]; exact Nat.le_refl _) o
    refine ⟨((hal _).cell (p := ⟨b, 0, none⟩) hqb).trans (cell_set _ hp), Exc.trans (b := w.setCell ⟨b, 0, none⟩ (.int .i64 c)) ⟨rfl, rfl, rfl, by rw [hz]; exact Nat.le_refl _, fun k hk hd => Below.heap_setCell _ _ _ _ hd⟩ (Exc.of (hal _))⟩
theorem stried1_idle (b : Nat) (w : World) :
    CallsD Try.prog 33 #[.pointer (some ⟨b, 0, none⟩)] .returning w fun e u' w' =>
      e = .returned (.tuple #[]) ∧ u' = .returning ∧ Below w.heap.size w w' := by
  refine callsD_of_wpS Try.func33 rfl fun c₀ cs hu => ?_
  apply wpS_seq
  apply wpS_region
  simp [wpOpsS, go_sem, recoverD, hu, Try.ntmps33, Exit.thenS, Array.replicate, List.replicate]
  refine wpS_of_wp ?_
  have hta := fun w => sassert_nil w
  go_wp2
  all_goals
    simp [bodyPostS, results, Try.results33, go_sem]
    exact ⟨.returning, by cases c₀; simp_all, rfl, (Below.refl _ _).alloc (Nat.le_refl _) _⟩
theorem one_exc {w w1 : World} {c1 : Array Value} {t1 : TypeId} {D : Nat} (hD : D < w.heap.size) (hb : Exc (w.alloc (.cells c1 t1)).heap.size D (w.alloc (.cells c1 t1)) w1) :
    (∀ i, w1.cell? ⟨w.heap.size, i, none⟩ = c1[i]?) ∧ (∀ i, w1.frozen? ⟨w.heap.size, i, none⟩ = false) ∧ w.heap.size < w1.heap.size := by
  refine ⟨fun i => ?_, fun i => ?_, ?_⟩
  · rw [hb.cell (p := ⟨w.heap.size, i, none⟩) (by simp) (by show w.heap.size ≠ D; omega)]; simp [go_sem]
  · rw [hb.frozen (p := ⟨w.heap.size, i, none⟩) (by simp) (by show w.heap.size ≠ D; omega)]; simp [go_sem]
  · have := hb.size; simp at this; omega
set_option maxHeartbeats 1000000 in
theorem stried_ok (K : FuncId) (caps : Array Value) (D : Nat) (Q : World → Prop) (he : ∀ args w, (callFunc K args).run Try.prog w = .ok (.enter K args) w) (w : World) (hD : D < w.heap.size)
    (hQ : ∀ a b : World, b.heap[D]? = a.heap[D]? → Q a → Q b)
    (h : ∀ w1, Below w.heap.size w w1 → Calls Try.prog K caps w1 fun e w' => e = .returned (.tuple #[]) ∧ Exc w1.heap.size D w1 w' ∧ Q w') :
    Calls Try.prog 23 #[.func (.func K) #[] caps] w fun e w' => e = .returned (.int .i64 0) ∧ Exc w.heap.size D w w' ∧ Q w' := by
  have hmf : ∀ (fn : Fn) (first cap : Array Value) (w : World), (Instr.makeFunc fn first cap).run Try.prog w = .ok (.func fn first cap) w := fun _ _ _ _ => rfl
  have HH := Hid.mk' h
  have HQ := Hid.mk' hQ
  have hcall : ∀ w, (callFunc K caps).run Try.prog w = .ok (.enter K caps) w := fun w => he caps w
  clear h he hQ
  go_enter_defers Try.func23, Try.ntmps23
  go_wp2_with (go_at_fn K; refine (HH.out _ ((Below.refl _ _).alloc (Nat.le_refl _) _)).mono ?_; rintro e w1 ⟨rfl, hb1, hq⟩; obtain ⟨hc1, hf1, hz⟩ := one_exc hD hb1; have hd1 := hc1 0)
  refine leaves_cons (f := 33) (args := #[.pointer (some ⟨w.heap.size, 0, none⟩)]) (by simp) (by simp [go_sem]) ?_
  have hs : (w1.setCell ⟨w.heap.size, 0, none⟩ (.int .i64 0)).heap.size = w1.heap.size := by simp [World.setCell]
  refine (stried1_idle w.heap.size _).mono ?_
  rintro e u' w2 ⟨rfl, rfl, hb2⟩
  rw [hs] at hb2
  have g1 : w2.cell? ⟨w.heap.size, 0, none⟩ = some (.int .i64 0) := by
    rw [hb2.cell (p := ⟨w.heap.size, 0, none⟩) hz]
    exact cell_set _ hd1
  clear HH hcall hmf hc1 hf1 hd1
  simp [Leaves, settle, results, Try.results23, go_sem, g1]
  have hsc : Below w.heap.size w1 (w1.setCell ⟨w.heap.size, 0, none⟩ (.int .i64 0)) := (Below.refl w.heap.size w1).setCell (p := ⟨w.heap.size, 0, none⟩) (Nat.le_refl _) _
  refine ⟨((Exc.of ((Below.refl w.heap.size w).alloc (Nat.le_refl _) _)).trans (hb1.mono (by simp))).trans ((Exc.of hsc).trans (Exc.of (hb2.mono (by omega)))), ?_⟩
  exact HQ.out _ _ (hb2.block D (by omega)) (HQ.out _ _ (hsc.block D hD) hq)
set_option maxHeartbeats 1000000 in
theorem stried_err (K : FuncId) (caps : Array Value) (D : Nat) (c : Int) (Q : World → Prop) (he : ∀ args w, (callFunc K args).run Try.prog w = .ok (.enter K args) w) (w : World) (hD : D < w.heap.size)
    (hQ : ∀ a b : World, b.heap[D]? = a.heap[D]? → Q a → Q b)
    (h : ∀ w1, Below w.heap.size w w1 → Calls Try.prog K caps w1 fun e w' => e = .panicked (skPanic c) ∧ Exc w1.heap.size D w1 w' ∧ Q w') :
    Calls Try.prog 23 #[.func (.func K) #[] caps] w fun e w' => e = .returned (.int .i64 c) ∧ Exc w.heap.size D w w' ∧ Q w' := by
  have hmf : ∀ (fn : Fn) (first cap : Array Value) (w : World), (Instr.makeFunc fn first cap).run Try.prog w = .ok (.func fn first cap) w := fun _ _ _ _ => rfl
  have HH := Hid.mk' h
  have HQ := Hid.mk' hQ
  have hcall : ∀ w, (callFunc K caps).run Try.prog w = .ok (.enter K caps) w := fun w => he caps w
  clear h he hQ
  go_enter_defers Try.func23, Try.ntmps23
  go_wp2_with (go_at_fn K; refine (HH.out _ ((Below.refl _ _).alloc (Nat.le_refl _) _)).mono ?_; rintro e w1 ⟨rfl, hb1, hq⟩; obtain ⟨hc1, hf1, hz⟩ := one_exc hD hb1)
  refine leaves_cons (f := 33) (args := #[.pointer (some ⟨w.heap.size, 0, none⟩)]) (by simp) (by simp [go_sem]) ?_
  refine (stried1_panic w.heap.size 0 c _ (hc1 0) (hf1 0) hz).mono ?_
  rintro e u' w2 ⟨rfl, rfl, g1, hb2⟩
  clear HH hcall hmf hc1 hf1
  simp [Leaves, settle, results, Try.results23, go_sem, g1]
  refine ⟨((Exc.of ((Below.refl w.heap.size w).alloc (Nat.le_refl _) _)).trans (hb1.mono (by simp))).trans (Exc.of ((hb2.mono (by omega)).below (Nat.le_refl _))), ?_⟩
  exact HQ.out _ _ (hb2.block D (by omega) (by omega)) hq
end Go.Proofs.Yteaadpgpihggeaa

namespace Go.Proofs.Yteaadpgpihggeaa
open Go.RowKit
def Cal.thrown (c : Cal) (miss : Int) : Bod := ⟨c.team, c.n, ⟨c.m.ax, c.m.ay, c.m.sx + (miss % 7 - 3) * c.stx, c.m.sy + (miss / 7 - 3) * c.sty, c.m.spin⟩, false⟩
theorem small_mul {n x : Int} (h0 : -3 ≤ n) (h1 : n ≤ 3) (h2 : 0 ≤ x) (h3 : x ≤ 8192000) : ∃ p, IntKind.i64.wrap (n * x) = p ∧ -24576000 ≤ p ∧ p ≤ 24576000 ∧ Hid (n * x = p) := by
  have : n = -3 ∨ n = -2 ∨ n = -1 ∨ n = 0 ∨ n = 1 ∨ n = 2 ∨ n = 3 := by omega
  refine ⟨n * x, ?_, ?_, ?_, rfl⟩
  · rw [IntKind.wrap_i64]
    rcases this with rfl | rfl | rfl | rfl | rfl | rfl | rfl <;> omega
  · rcases this with rfl | rfl | rfl | rfl | rfl | rfl | rfl <;> omega
  · rcases this with rfl | rfl | rfl | rfl | rfl | rfl | rfl <;> omega
theorem Cal.ok_bd {c : Cal} (h : c.ok = true) : (-65536000 ≤ c.m.sx ∧ c.m.sx ≤ 65536000) ∧ (-65536000 ≤ c.m.sy ∧ c.m.sy ≤ 65536000) ∧ (0 ≤ c.stx ∧ c.stx ≤ 8192000) ∧ (0 ≤ c.sty ∧ c.sty ≤ 8192000) := by
  simp only [Cal.ok, Bod.ok, Cal.body, Mov.ok, sqB, Bool.and_eq_true, wB_iff] at h
  omega
theorem sbody_x (team n ax ay sx sy spin stx sty : Int) (bv : Value) (w : World) :
    Calls Try.prog 31 #[.agg #[.int .i64 team, .int .i64 n, .int .i64 ax, .int .i64 ay, .int .i64 sx, .int .i64 sy, .int .i64 spin, bv, .int .i64 stx, .int .i64 sty]] w
      fun e w' => e = .returned (.agg #[.int .i64 team, .int .i64 n, .int .i64 ax, .int .i64 ay, .int .i64 sx, .int .i64 sy, .int .i64 spin, .bool false]) ∧ Below w.heap.size w w' :=
  sbody_c ⟨team, n, ⟨ax, ay, sx, sy, spin⟩, [], stx, sty⟩ bv w
set_option maxHeartbeats 1000000 in
theorem sthrow_c (c : Cal) (bv : Value) (miss : Int) (w : World) (hc : c.ok = true) (hl : Brms w bv c.l) (h0 : 0 ≤ miss) (h1 : miss ≤ 48) (k : Bool) (hk : (c.thrown miss).ok = k) :
    Calls Try.prog 25 #[.agg (c.cells bv), .int .i64 miss] w fun e w' => (k = true → e = .returned (.agg (c.thrown miss).cells)) ∧ (k = false → e = .panicked (skPanic 4)) ∧ Below w.heap.size w w' := by
  obtain ⟨⟨b1, b2⟩, ⟨b3, b4⟩, ⟨b5, b6⟩, b7, b8⟩ := Cal.ok_bd hc
  obtain ⟨q, cap, rfl⟩ := hl.shape
  clear hl hc
  obtain ⟨team, n, ⟨ax, ay, sx, sy, spin⟩, l, stx, sty⟩ := c
  simp only at b1 b2 b3 b4 b5 b6 b7 b8
  obtain ⟨p1, w1, g1, g2, HP1⟩ := small_mul (n := miss % 7 - 3) (x := stx) (by omega) (by omega) b5 b6
  obtain ⟨p2, w2, g3, g4, HP2⟩ := small_mul (n := miss / 7 - 3) (x := sty) (by omega) (by omega) b7 b8
  have ht : Cal.thrown ⟨team, n, ⟨ax, ay, sx, sy, spin⟩, l, stx, sty⟩ miss = ⟨team, n, ⟨ax, ay, sx + p1, sy + p2, spin⟩, false⟩ := by
    unfold Cal.thrown; simp only; rw [HP1.out, HP2.out]
  rw [ht] at hk ⊢
  have HK := Hid.mk' hk
  clear hk ht HP1 HP2
  unfold Cal.cells
  simp only
  cases k
  · go_enter Try.func25, Try.ntmps25
    go_wp2_with (first
      | (go_at_call 31; refine (sbody_x team n ax ay sx sy spin stx sty _ _).mono ?_; rintro e wa ⟨rfl, hb1⟩; obtain ⟨hc1, hc2, hf1, hf2, hz⟩ := two_new hb1; have hbw : Below w.heap.size w wa := (((Below.refl _ _).alloc (Nat.le_refl _) _).alloc (by simp) _).trans (hb1.mono (by simp <;> omega)); have s8 := hc1 8; have s9 := hc1 9; have hz0 : w.heap.size < wa.heap.size := (by omega); have HC2 := Hid.mk' hc2; have HF2 := Hid.mk' hf2; clear hc1 hc2 hf1 hf2)
      | (go_at_call 30; refine (svalid_c ⟨team, n, ⟨ax, ay, sx + p1, sy + p2, spin⟩, false⟩ _ rfl).mono ?_; rintro e wb ⟨rfl, hb2⟩; rw [HK.out]; obtain ⟨hd, hdf, hdz, hdw⟩ := one_new hb2; have r0 := (hdw.cell (p := ⟨w.heap.size + 1, 0, none⟩) hz).trans (HC2.out 0); have e0 := hd 0; have r1 := (hdw.cell (p := ⟨w.heap.size + 1, 1, none⟩) hz).trans (HC2.out 1); have e1 := hd 1; have r2 := (hdw.cell (p := ⟨w.heap.size + 1, 2, none⟩) hz).trans (HC2.out 2); have e2 := hd 2; have r3 := (hdw.cell (p := ⟨w.heap.size + 1, 3, none⟩) hz).trans (HC2.out 3); have e3 := hd 3; have r4 := (hdw.cell (p := ⟨w.heap.size + 1, 4, none⟩) hz).trans (HC2.out 4); have e4 := hd 4; have r5 := (hdw.cell (p := ⟨w.heap.size + 1, 5, none⟩) hz).trans (HC2.out 5); have e5 := hd 5; have r6 := (hdw.cell (p := ⟨w.heap.size + 1, 6, none⟩) hz).trans (HC2.out 6); have e6 := hd 6; have r7 := (hdw.cell (p := ⟨w.heap.size + 1, 7, none⟩) hz).trans (HC2.out 7); have e7 := hd 7; have rf0 := (hdw.frozen (p := ⟨w.heap.size + 1, 0, none⟩) hz).trans (HF2.out 0); have rf1 := (hdw.frozen (p := ⟨w.heap.size + 1, 1, none⟩) hz).trans (HF2.out 1); have rf2 := (hdw.frozen (p := ⟨w.heap.size + 1, 2, none⟩) hz).trans (HF2.out 2); have rf3 := (hdw.frozen (p := ⟨w.heap.size + 1, 3, none⟩) hz).trans (HF2.out 3); have rf4 := (hdw.frozen (p := ⟨w.heap.size + 1, 4, none⟩) hz).trans (HF2.out 4); have rf5 := (hdw.frozen (p := ⟨w.heap.size + 1, 5, none⟩) hz).trans (HF2.out 5); have rf6 := (hdw.frozen (p := ⟨w.heap.size + 1, 6, none⟩) hz).trans (HF2.out 6); have rf7 := (hdw.frozen (p := ⟨w.heap.size + 1, 7, none⟩) hz).trans (HF2.out 7); clear hd hdf)
      | (go_at_call 34; with_reducible refine (sneed_yes _ _).mono ?_; rintro e w' ⟨rfl, rfl⟩)
      | (go_at_call 34; with_reducible refine (sneed_no _ _).mono ?_; rintro e w' ⟨rfl, rfl⟩))
    exact ⟨rfl, (fun h => by cases h), fun _ => rfl, hbw.trans (hdw.mono hbw.size)⟩
  · go_enter Try.func25, Try.ntmps25
    go_wp2_with (first
      | (go_at_call 31; refine (sbody_x team n ax ay sx sy spin stx sty _ _).mono ?_; rintro e wa ⟨rfl, hb1⟩; obtain ⟨hc1, hc2, hf1, hf2, hz⟩ := two_new hb1; have hbw : Below w.heap.size w wa := (((Below.refl _ _).alloc (Nat.le_refl _) _).alloc (by simp) _).trans (hb1.mono (by simp <;> omega)); have s8 := hc1 8; have s9 := hc1 9; have hz0 : w.heap.size < wa.heap.size := (by omega); have HC2 := Hid.mk' hc2; have HF2 := Hid.mk' hf2; clear hc1 hc2 hf1 hf2)
      | (go_at_call 30; refine (svalid_c ⟨team, n, ⟨ax, ay, sx + p1, sy + p2, spin⟩, false⟩ _ rfl).mono ?_; rintro e wb ⟨rfl, hb2⟩; rw [HK.out]; obtain ⟨hd, hdf, hdz, hdw⟩ := one_new hb2; have r0 := (hdw.cell (p := ⟨w.heap.size + 1, 0, none⟩) hz).trans (HC2.out 0); have e0 := hd 0; have r1 := (hdw.cell (p := ⟨w.heap.size + 1, 1, none⟩) hz).trans (HC2.out 1); have e1 := hd 1; have r2 := (hdw.cell (p := ⟨w.heap.size + 1, 2, none⟩) hz).trans (HC2.out 2); have e2 := hd 2; have r3 := (hdw.cell (p := ⟨w.heap.size + 1, 3, none⟩) hz).trans (HC2.out 3); have e3 := hd 3; have r4 := (hdw.cell (p := ⟨w.heap.size + 1, 4, none⟩) hz).trans (HC2.out 4); have e4 := hd 4; have r5 := (hdw.cell (p := ⟨w.heap.size + 1, 5, none⟩) hz).trans (HC2.out 5); have e5 := hd 5; have r6 := (hdw.cell (p := ⟨w.heap.size + 1, 6, none⟩) hz).trans (HC2.out 6); have e6 := hd 6; have r7 := (hdw.cell (p := ⟨w.heap.size + 1, 7, none⟩) hz).trans (HC2.out 7); have e7 := hd 7; have rf0 := (hdw.frozen (p := ⟨w.heap.size + 1, 0, none⟩) hz).trans (HF2.out 0); have rf1 := (hdw.frozen (p := ⟨w.heap.size + 1, 1, none⟩) hz).trans (HF2.out 1); have rf2 := (hdw.frozen (p := ⟨w.heap.size + 1, 2, none⟩) hz).trans (HF2.out 2); have rf3 := (hdw.frozen (p := ⟨w.heap.size + 1, 3, none⟩) hz).trans (HF2.out 3); have rf4 := (hdw.frozen (p := ⟨w.heap.size + 1, 4, none⟩) hz).trans (HF2.out 4); have rf5 := (hdw.frozen (p := ⟨w.heap.size + 1, 5, none⟩) hz).trans (HF2.out 5); have rf6 := (hdw.frozen (p := ⟨w.heap.size + 1, 6, none⟩) hz).trans (HF2.out 6); have rf7 := (hdw.frozen (p := ⟨w.heap.size + 1, 7, none⟩) hz).trans (HF2.out 7); clear hd hdf)
      | (go_at_call 34; with_reducible refine (sneed_yes _ _).mono ?_; rintro e w' ⟨rfl, rfl⟩)
      | (go_at_call 34; with_reducible refine (sneed_no _ _).mono ?_; rintro e w' ⟨rfl, rfl⟩))
    refine bodyPost_ret (v := .agg #[.int .i64 team, .int .i64 n, .int .i64 ax, .int .i64 ay, .int .i64 (sx + p1), .int .i64 (sy + p2), .int .i64 spin, .bool false]) ?_ rfl ⟨fun _ => rfl, (fun h => (by cases h)), ?_⟩
    · simp [results, Try.results25, go_sem, r0, r1, r2, r3, r4, r5, r6, r7]
    · have hb := hbw.trans (hdw.mono hbw.size)
      repeat (refine Below.setCell ?_ (by show w.heap.size ≤ w.heap.size + 1; omega) _)
      exact hb
end Go.Proofs.Yteaadpgpihggeaa

namespace Go.Proofs.Yteaadpgpihggeaa
open Go.RowKit
def bod0 : Bod := ⟨0, 0, ⟨0, 0, 0, 0, 0⟩, false⟩
def Holds (D : Nat) (b : Bod) (w : World) : Prop := (∀ i, w.cell? ⟨D, i, none⟩ = b.cells[i]?) ∧ (∀ i, w.frozen? ⟨D, i, none⟩ = false)
theorem Holds.of_block {D : Nat} {b : Bod} {w w' : World} (h : w'.heap[D]? = w.heap[D]?) (hw : Holds D b w) : Holds D b w' :=
  ⟨fun i => (World.cell?_of_block (w := w) (a := ⟨D, i, none⟩) h).trans (hw.1 i), fun i => (World.frozen?_of_block (w := w) (a := ⟨D, i, none⟩) h).trans (hw.2 i)⟩
theorem frozen_setCell {w : World} {a : Addr} {v : Value} {b : Addr} : (w.setCell a v).frozen? b = w.frozen? b := by
  simp [go_sem]
theorem holds_stored {w : World} {D : Nat} {b0 : Bod} (h : Holds D b0 w) (team n ax ay sx sy spin : Int) (out : Bool) :
    Holds D ⟨team, n, ⟨ax, ay, sx, sy, spin⟩, out⟩ ((((((((w.setCell ⟨D, 0, none⟩ (.int .i64 team)).setCell ⟨D, 1, none⟩ (.int .i64 n)).setCell ⟨D, 2, none⟩ (.int .i64 ax)).setCell ⟨D, 3, none⟩ (.int .i64 ay)).setCell ⟨D, 4, none⟩ (.int .i64 sx)).setCell ⟨D, 5, none⟩ (.int .i64 sy)).setCell ⟨D, 6, none⟩ (.int .i64 spin)).setCell ⟨D, 7, none⟩ (.bool out)) := by
  obtain ⟨h1, h2⟩ := h
  obtain ⟨t0, n0, ⟨ax0, ay0, sx0, sy0, sp0⟩, o0⟩ := b0
  have r0 := h1 0
  have r1 := h1 1
  have r2 := h1 2
  have r3 := h1 3
  have r4 := h1 4
  have r5 := h1 5
  have r6 := h1 6
  have r7 := h1 7
  simp only [Bod.cells, List.getElem?_toArray, List.getElem?_cons_zero, List.getElem?_cons_succ] at r0 r1 r2 r3 r4 r5 r6 r7
  refine ⟨fun i => ?_, fun i => by simp only [frozen_setCell]; exact h2 i⟩
  match i with
  | 0 => simp [go_sem, Bod.cells, r0]
  | 1 => simp [go_sem, Bod.cells, r1]
  | 2 => simp [go_sem, Bod.cells, r2]
  | 3 => simp [go_sem, Bod.cells, r3]
  | 4 => simp [go_sem, Bod.cells, r4]
  | 5 => simp [go_sem, Bod.cells, r5]
  | 6 => simp [go_sem, Bod.cells, r6]
  | 7 => simp [go_sem, Bod.cells, r7]
  | i + 8 =>
    have r8 := h1 (i + 8)
    simp only [Bod.cells] at r8 ⊢
    rw [cell_set_ne _ (by simp), cell_set_ne _ (by simp), cell_set_ne _ (by simp), cell_set_ne _ (by simp), cell_set_ne _ (by simp), cell_set_ne _ (by simp), cell_set_ne _ (by simp), cell_set_ne _ (by simp)]
    rw [r8]; simp
theorem exc_setCell (n D o : Nat) (w : World) (v : Value) : Exc n D w (w.setCell ⟨D, o, none⟩ v) :=
  ⟨rfl, rfl, rfl, by simp [World.setCell], fun _ _ hd => Below.heap_setCell _ _ _ _ hd⟩
theorem exc_stored (n D : Nat) (w : World) (team num ax ay sx sy spin : Int) (out : Bool) :
    Exc n D w ((((((((w.setCell ⟨D, 0, none⟩ (.int .i64 team)).setCell ⟨D, 1, none⟩ (.int .i64 num)).setCell ⟨D, 2, none⟩ (.int .i64 ax)).setCell ⟨D, 3, none⟩ (.int .i64 ay)).setCell ⟨D, 4, none⟩ (.int .i64 sx)).setCell ⟨D, 5, none⟩ (.int .i64 sy)).setCell ⟨D, 6, none⟩ (.int .i64 spin)).setCell ⟨D, 7, none⟩ (.bool out)) :=
  ((((((((exc_setCell n D 0 w _).trans (exc_setCell n D 1 _ _)).trans (exc_setCell n D 2 _ _)).trans (exc_setCell n D 3 _ _)).trans (exc_setCell n D 4 _ _)).trans (exc_setCell n D 5 _ _)).trans (exc_setCell n D 6 _ _)).trans (exc_setCell n D 7 _ _))
set_option maxHeartbeats 1000000 in
theorem throw1_c (b : Nat) (c : Cal) (bv : Value) (miss : Int) (w : World) (hc : c.ok = true) (hl : Brms w bv c.l) (h0 : 0 ≤ miss) (h1 : miss ≤ 48) (k : Bool) (hk : (c.thrown miss).ok = k)
    (hb : b + 2 < w.heap.size) (g0 : ∀ i, w.cell? ⟨b, i, none⟩ = (c.cells bv)[i]?) (g1 : w.cell? ⟨b + 1, 0, none⟩ = some (.int .i64 miss)) (g2 : Holds (b + 2) bod0 w) :
    Calls Try.prog 24 #[.pointer (some ⟨b, 0, none⟩), .pointer (some ⟨b + 1, 0, none⟩), .pointer (some ⟨b + 2, 0, none⟩)] w fun e w' =>
      (k = true → e = .returned (.tuple #[]) ∧ Holds (b + 2) (c.thrown miss) w') ∧ (k = false → e = .panicked (skPanic 4) ∧ Holds (b + 2) bod0 w') ∧ Exc w.heap.size (b + 2) w w' := by
  have HT : Hid (∀ w', Brms w' bv c.l → Calls Try.prog 25 #[.agg (c.cells bv), .int .i64 miss] w' fun e w'' => (k = true → e = .returned (.agg (c.thrown miss).cells)) ∧ (k = false → e = .panicked (skPanic 4)) ∧ Below w'.heap.size w' w'') := fun w' hl => sthrow_c c bv miss w' hc hl h0 h1 k hk
  have HL := Hid.mk' hl
  have HG := Hid.mk' g2
  obtain ⟨q, cap, rfl⟩ := hl.shape
  clear hl hk hc
  obtain ⟨x, hx⟩ : ∃ x, c.thrown miss = x := ⟨_, rfl⟩
  rw [hx] at HT ⊢
  clear hx
  obtain ⟨team, n, ⟨ax, ay, sx, sy, spin⟩, l, stx, sty⟩ := c
  obtain ⟨t0, n0, ⟨ax0, ay0, sx0, sy0, sp0⟩, o0⟩ := x
  simp only [Cal.cells, Bod.cells] at g0 HT HL
  have d0 := g0 0
  have d1 := g0 1
  have d2 := g0 2
  have d3 := g0 3
  have d4 := g0 4
  have d5 := g0 5
  have d6 := g0 6
  have d7 := g0 7
  have d8 := g0 8
  have d9 := g0 9
  clear g0 g2
  cases k
  · go_enter Try.func24, Try.ntmps24
    go_wp2_with (go_at_call 25; refine (HT.out _ HL.out).mono ?_; rintro e w1 ⟨-, hp, hb1⟩; obtain rfl := hp rfl)
    exact ⟨rfl, (fun h => (by cases h)), fun _ => ⟨rfl, HG.out.of_block (hb1.block _ hb)⟩, Exc.of hb1⟩
  · go_enter Try.func24, Try.ntmps24
    go_wp2_with (go_at_call 25; refine (HT.out _ HL.out).mono ?_; rintro e w1 ⟨hp, -, hb1⟩; obtain rfl := hp rfl; have HG1 := Hid.mk' (HG.out.of_block (hb1.block _ hb)); have r0 := HG1.out.1 0; have r1 := HG1.out.1 1; have r2 := HG1.out.1 2; have r3 := HG1.out.1 3; have r4 := HG1.out.1 4; have r5 := HG1.out.1 5; have r6 := HG1.out.1 6; have r7 := HG1.out.1 7; have f0 := HG1.out.2 0; have f1 := HG1.out.2 1; have f2 := HG1.out.2 2; have f3 := HG1.out.2 3; have f4 := HG1.out.2 4; have f5 := HG1.out.2 5; have f6 := HG1.out.2 6; have f7 := HG1.out.2 7; simp only [bod0, Bod.cells, List.getElem?_toArray, List.getElem?_cons_zero, List.getElem?_cons_succ] at r0 r1 r2 r3 r4 r5 r6 r7)
    go_end0
    have hst := holds_stored HG1.out t0 n0 ax0 ay0 sx0 sy0 sp0 o0
    have hex := exc_stored w.heap.size (b + 2) w1 t0 n0 ax0 ay0 sx0 sy0 sp0 o0
    have hex2 := (Exc.of (D := b + 2) hb1).trans hex
    clear hex HG1 r0 r1 r2 r3 r4 r5 r6 r7 f0 f1 f2 f3 f4 f5 f6 f7
    refine ⟨?_, ?_, hex2⟩
    · intro _
      exact ⟨rfl, hst⟩
    · intro h
      cases h
end Go.Proofs.Yteaadpgpihggeaa

namespace Go.Proofs.Yteaadpgpihggeaa
open Go.RowKit
def thOk (c : Cal) (miss : Int) : Bool := c.ok && wB miss 0 48
def thBody (c : Cal) (miss : Int) : Bod := if thOk c miss && (c.thrown miss).ok then c.thrown miss else bod0
def thErr (c : Cal) (miss : Int) : Int := if thOk c miss then (if (c.thrown miss).ok then 0 else 4) else 2
theorem three_new {w w1 : World} {c1 c2 c3 : Array Value} {t1 t2 t3 : TypeId} (hb : Below (((w.alloc (.cells c1 t1)).alloc (.cells c2 t2)).alloc (.cells c3 t3)).heap.size (((w.alloc (.cells c1 t1)).alloc (.cells c2 t2)).alloc (.cells c3 t3)) w1) :
    (∀ i, w1.cell? ⟨w.heap.size, i, none⟩ = c1[i]?) ∧ (∀ i, w1.cell? ⟨w.heap.size + 1, i, none⟩ = c2[i]?) ∧ (∀ i, w1.cell? ⟨w.heap.size + 2, i, none⟩ = c3[i]?) ∧ (∀ i, w1.frozen? ⟨w.heap.size + 2, i, none⟩ = false) ∧ w.heap.size + 2 < w1.heap.size ∧ Below w.heap.size w w1 := by
  have hs := hb.size
  simp at hs
  refine ⟨fun i => ?_, fun i => ?_, fun i => ?_, fun i => ?_, by omega, ((((Below.refl _ _).alloc (Nat.le_refl _) _).alloc (by simp) _).alloc (by simp <;> omega) _).trans (hb.mono (by simp <;> omega))⟩
  · rw [hb.cell (p := ⟨w.heap.size, i, none⟩) (by simp <;> omega)]; simp [go_sem]
  · rw [hb.cell (p := ⟨w.heap.size + 1, i, none⟩) (by simp <;> omega)]; simp [go_sem]
  · rw [hb.cell (p := ⟨w.heap.size + 2, i, none⟩) (by simp <;> omega)]; simp [go_sem]
  · rw [hb.frozen (p := ⟨w.heap.size + 2, i, none⟩) (by simp <;> omega)]; simp [go_sem]
set_option maxHeartbeats 2000000 in
theorem throw_c (c : Cal) (bv : Value) (miss : Int) (w : World) (hl : Brms w bv c.l) :
    Calls Try.prog 10 #[.agg (c.cells bv), .int .i64 miss] w fun e w' => e = .returned (.tuple #[.agg (thBody c miss).cells, .int .i64 (thErr c miss)]) ∧ Below w.heap.size w w' := by
  have HL : Hid (∀ w', Below w.heap.size w w' → Brms w' bv c.l) := fun w' hb => hl.below hb (Nat.le_refl _)
  obtain ⟨q, cap, rfl⟩ := hl.shape
  clear hl
  cases e1 : c.ok
  case false =>
    have hB : thBody c miss = bod0 := by simp [thBody, thOk, e1]
    have hE : thErr c miss = 2 := by simp [thErr, thOk, e1]
    rw [hB, hE]
    have HC : Hid (∀ w', Below w.heap.size w w' → Calls Try.prog 22 #[.agg (c.cells (.slice q c.l.length cap))] w' fun e w'' => e = .returned (.int .i64 2) ∧ Below w'.heap.size w' w'') := fun w' hb => by
      have := checkCall_c c _ w' (HL.out w' hb); rw [e1] at this; exact this
    clear hB hE e1 HL
    obtain ⟨team, n, ⟨ax, ay, sx, sy, spin⟩, l, stx, sty⟩ := c
    simp only [Cal.cells] at HC ⊢
    go_enter Try.func10, Try.ntmps10
    go_wp2_with (go_at_call 22; refine (HC.out _ ((((Below.refl _ _).alloc (Nat.le_refl _) _).alloc (by simp) _).alloc (by simp <;> omega) _)).mono ?_; rintro e w1 ⟨rfl, hb1⟩; obtain ⟨hc1, hc2, hc3, hf3, hz, hbw⟩ := three_new hb1; have m0 := hc2 0; have r0 := hc3 0; have r1 := hc3 1; have r2 := hc3 2; have r3 := hc3 3; have r4 := hc3 4; have r5 := hc3 5; have r6 := hc3 6; have r7 := hc3 7; have f0 := hf3 0; have f1 := hf3 1; have f2 := hf3 2; have f3 := hf3 3; have f4 := hf3 4; have f5 := hf3 5; have f6 := hf3 6; have f7 := hf3 7; have HC1 := Hid.mk' hc1; have HC3 := Hid.mk' hc3; have HF3 := Hid.mk' hf3; have HM := Hid.mk' m0; clear hc1 hc3 hf3)
    refine bodyPost_ret (v := .tuple #[.agg #[.int .i64 0, .int .i64 0, .int .i64 0, .int .i64 0, .int .i64 0, .int .i64 0, .int .i64 0, .bool false], .int .i64 2]) (by simp [results, Try.results10, go_sem, r0, r1, r2, r3, r4, r5, r6, r7]) rfl ⟨rfl, ?_⟩
    repeat (refine Below.setCell ?_ (by show w.heap.size ≤ w.heap.size + 2; omega) _)
    exact hbw
  have HC : Hid (∀ w', Below w.heap.size w w' → Calls Try.prog 22 #[.agg (c.cells (.slice q c.l.length cap))] w' fun e w'' => e = .returned (.int .i64 0) ∧ Below w'.heap.size w' w'') := fun w' hb => by
    have := checkCall_c c _ w' (HL.out w' hb); rw [e1] at this; exact this
  cases e2 : wB miss 0 48
  case false =>
    have hB : thBody c miss = bod0 := by simp [thBody, thOk, e2]
    have hE : thErr c miss = 2 := by simp [thErr, thOk, e2]
    rw [hB, hE]
    have H2 := Hid.mk' e2
    clear hB hE e1 e2 HL
    obtain ⟨team, n, ⟨ax, ay, sx, sy, spin⟩, l, stx, sty⟩ := c
    simp only [Cal.cells] at HC ⊢
    go_enter Try.func10, Try.ntmps10
    go_wp2_with (first
      | (go_at_call 22; refine (HC.out _ ((((Below.refl _ _).alloc (Nat.le_refl _) _).alloc (by simp) _).alloc (by simp <;> omega) _)).mono ?_; rintro e w1 ⟨rfl, hb1⟩; obtain ⟨hc1, hc2, hc3, hf3, hz, hbw⟩ := three_new hb1; have m0 := hc2 0; have r0 := hc3 0; have r1 := hc3 1; have r2 := hc3 2; have r3 := hc3 3; have r4 := hc3 4; have r5 := hc3 5; have r6 := hc3 6; have r7 := hc3 7; have f0 := hf3 0; have f1 := hf3 1; have f2 := hf3 2; have f3 := hf3 3; have f4 := hf3 4; have f5 := hf3 5; have f6 := hf3 6; have f7 := hf3 7; have HC1 := Hid.mk' hc1; have HC3 := Hid.mk' hc3; have HF3 := Hid.mk' hf3; have HM := Hid.mk' m0; clear hc1 hc3 hf3)
      | (go_at_call 16; refine (within_c _ _ _ _).mono ?_; rintro e w' ⟨rfl, rfl⟩; rw [H2.out]))
    refine bodyPost_ret (v := .tuple #[.agg #[.int .i64 0, .int .i64 0, .int .i64 0, .int .i64 0, .int .i64 0, .int .i64 0, .int .i64 0, .bool false], .int .i64 2]) (by simp [results, Try.results10, go_sem, r0, r1, r2, r3, r4, r5, r6, r7]) rfl ⟨rfl, ?_⟩
    repeat (refine Below.setCell ?_ (by show w.heap.size ≤ w.heap.size + 2; omega) _)
    exact hbw
  have H2 := Hid.mk' e2
  obtain ⟨m1, m2⟩ := (wB_iff _ _ _).1 e2
  have hth : thOk c miss = true := by simp [thOk, e1, e2]
  have HE1 := Hid.mk' e1
  have HTRY : Hid (∀ w1, Below w.heap.size w w1 → w.heap.size + 2 < w1.heap.size → (∀ i, w1.cell? ⟨w.heap.size, i, none⟩ = (c.cells (.slice q c.l.length cap))[i]?) → w1.cell? ⟨w.heap.size + 1, 0, none⟩ = some (.int .i64 miss) → Holds (w.heap.size + 2) bod0 w1 →
      Calls Try.prog 23 #[.func (.func 24) #[] #[.pointer (some ⟨w.heap.size, 0, none⟩), .pointer (some ⟨w.heap.size + 1, 0, none⟩), .pointer (some ⟨w.heap.size + 2, 0, none⟩)]] w1 fun e w' => e = .returned (.int .i64 (thErr c miss)) ∧ Exc w1.heap.size (w.heap.size + 2) w1 w' ∧ Holds (w.heap.size + 2) (thBody c miss) w') := by
    intro w1 hb1 hz hc1 hm hh
    have hen : ∀ args w, (callFunc 24 args).run Try.prog w = .ok (.enter 24 args) w := enters_of Try.func24 (by kernel_rfl) rfl
    cases hk : (c.thrown miss).ok
    · have hB : thBody c miss = bod0 := by unfold thBody; rw [hk, Bool.and_false]; rfl
      have hE : thErr c miss = 4 := by unfold thErr; rw [hth, hk]; rfl
      rw [hB, hE]
      refine stried_err 24 _ (w.heap.size + 2) 4 (Holds (w.heap.size + 2) bod0) hen w1 hz (fun a b h => Holds.of_block h) fun w2 hb2 => ?_
      refine (throw1_c w.heap.size c (.slice q c.l.length cap) miss w2 HE1.out (HL.out _ (hb1.trans (hb2.mono hb1.size))) m1 m2 false hk (Nat.lt_of_lt_of_le hz hb2.size) (cells_kept hc1 hb2 (by omega)) ((hb2.cell (p := ⟨w.heap.size + 1, 0, none⟩) (by show w.heap.size + 1 < _; omega)).trans hm) (hh.of_block (hb2.block _ hz))).mono ?_
      rintro e w3 ⟨-, h3, h4⟩
      exact ⟨(h3 rfl).1, h4, (h3 rfl).2⟩
    · have hB : thBody c miss = c.thrown miss := by unfold thBody; rw [hk, hth]; rfl
      have hE : thErr c miss = 0 := by unfold thErr; rw [hth, hk]; rfl
      rw [hB, hE]
      refine stried_ok 24 _ (w.heap.size + 2) (Holds (w.heap.size + 2) (c.thrown miss)) hen w1 hz (fun a b h => Holds.of_block h) fun w2 hb2 => ?_
      refine (throw1_c w.heap.size c (.slice q c.l.length cap) miss w2 HE1.out (HL.out _ (hb1.trans (hb2.mono hb1.size))) m1 m2 true hk (Nat.lt_of_lt_of_le hz hb2.size) (cells_kept hc1 hb2 (by omega)) ((hb2.cell (p := ⟨w.heap.size + 1, 0, none⟩) (by show w.heap.size + 1 < _; omega)).trans hm) (hh.of_block (hb2.block _ hz))).mono ?_
      rintro e w3 ⟨h3, -, h4⟩
      exact ⟨(h3 rfl).1, h4, (h3 rfl).2⟩
  clear hth e1 e2 HL HE1 m1 m2
  generalize thErr c miss = E at *
  generalize thBody c miss = X at *
  obtain ⟨team, n, ⟨ax, ay, sx, sy, spin⟩, l, stx, sty⟩ := c
  obtain ⟨t0, n0, ⟨ax0, ay0, sx0, sy0, sp0⟩, o0⟩ := X
  have hmf : ∀ (fn : Fn) (first cap : Array Value) (w : World), (Instr.makeFunc fn first cap).run Try.prog w = .ok (.func fn first cap) w := fun _ _ _ _ => rfl
  simp only [Cal.cells, Bod.cells] at HC HTRY ⊢
  go_enter Try.func10, Try.ntmps10
  go_wp2_with (first
    | (go_at_call 22; refine (HC.out _ ((((Below.refl _ _).alloc (Nat.le_refl _) _).alloc (by simp) _).alloc (by simp <;> omega) _)).mono ?_; rintro e w1 ⟨rfl, hb1⟩; obtain ⟨hc1, hc2, hc3, hf3, hz, hbw⟩ := three_new hb1; have m0 := hc2 0; have r0 := hc3 0; have r1 := hc3 1; have r2 := hc3 2; have r3 := hc3 3; have r4 := hc3 4; have r5 := hc3 5; have r6 := hc3 6; have r7 := hc3 7; have f0 := hf3 0; have f1 := hf3 1; have f2 := hf3 2; have f3 := hf3 3; have f4 := hf3 4; have f5 := hf3 5; have f6 := hf3 6; have f7 := hf3 7; have HC1 := Hid.mk' hc1; have HC3 := Hid.mk' hc3; have HF3 := Hid.mk' hf3; have HM := Hid.mk' m0; clear hc1 hc3 hf3)
    | (go_at_call 16; refine (within_c _ _ _ _).mono ?_; rintro e w' ⟨rfl, rfl⟩; rw [H2.out])
    | (go_at_call 23; refine (HTRY.out _ hbw hz HC1.out HM.out ⟨HC3.out, HF3.out⟩).mono ?_; rintro e w2 ⟨rfl, hx2, hh2⟩; clear r0 r1 r2 r3 r4 r5 r6 r7 f0 f1 f2 f3 f4 f5 f6 f7 m0; have r0 := hh2.1 0; have r1 := hh2.1 1; have r2 := hh2.1 2; have r3 := hh2.1 3; have r4 := hh2.1 4; have r5 := hh2.1 5; have r6 := hh2.1 6; have r7 := hh2.1 7; have f0 := hh2.2 0; have f1 := hh2.2 1; have f2 := hh2.2 2; have f3 := hh2.2 3; have f4 := hh2.2 4; have f5 := hh2.2 5; have f6 := hh2.2 6; have f7 := hh2.2 7; simp only [Bod.cells, List.getElem?_toArray, List.getElem?_cons_zero, List.getElem?_cons_succ] at r0 r1 r2 r3 r4 r5 r6 r7))
  refine bodyPost_ret (v := .tuple #[.agg #[.int .i64 t0, .int .i64 n0, .int .i64 ax0, .int .i64 ay0, .int .i64 sx0, .int .i64 sy0, .int .i64 sp0, .bool o0], .int .i64 E]) (by simp [results, Try.results10, go_sem, r0, r1, r2, r3, r4, r5, r6, r7]) rfl ⟨rfl, ?_⟩
  have hxb : Below w.heap.size w w2 := hbw.trans ((hx2.mono hbw.size).below (by omega))
  repeat (refine Below.setCell ?_ (by show w.heap.size ≤ w.heap.size + 2; omega) _)
  exact hxb
end Go.Proofs.Yteaadpgpihggeaa

namespace Go.Proofs.Yteaadpgpihggeaa
open Go.RowKit
def minTo (xs : List Int) : Nat → Int
  | 0 => nth xs 0
  | k + 1 => min (minTo xs k) (nth xs (k + 1))
theorem minTo_bd {xs : List Int} {lo hi : Int} {n : Nat} (h : ∀ j, j < n → lo ≤ nth xs j ∧ nth xs j ≤ hi) : ∀ k, k < n → lo ≤ minTo xs k ∧ minTo xs k ≤ hi
  | 0, hk => h 0 hk
  | k + 1, hk => by
    have a := minTo_bd h k (by omega)
    have b := h (k + 1) hk
    simp only [minTo]
    omega
set_option maxHeartbeats 1000000 in
theorem minFix_c (xs : List Int) (v : Value) (w : World) (hv : Ints w v xs) (h0 : 0 < xs.length) :
    Calls Try.prog 18 #[v] w fun e w' => e = .returned (.int .i64 (minTo xs (xs.length - 1))) ∧ w = w' := by
  rcases hv with ⟨q, cap, rfl, rfl⟩ | ⟨b, off, cap, rfl, -, h1, h2, h3⟩
  · simp at h0
  · have H2 : Hid (∀ i, i < xs.length → w.cell? ⟨b, off + i, none⟩ = some (.int .i64 (nth xs i))) := h2
    have hc0 := h2 0 h0
    rw [Nat.add_zero] at hc0
    clear h2 h3
    generalize xs.length = n at *
    obtain ⟨m, rfl⟩ : ∃ m, n = m + 1 := ⟨n - 1, by omega⟩
    rw [Nat.add_sub_cancel]
    have HM0 : Hid (minTo xs 0 = nth xs 0) := rfl
    generalize nth xs 0 = x0 at *
    go_enter Try.func18, Try.ntmps18
    go_wp2_with fail
    go_loop [3, 4] (fun s i => ∃ k : Nat, k ≤ m ∧ i = .int .i64 (k + 1 : Nat) ∧ s = .int .i64 (minTo xs k)) (fun _ i => m + 1 - (intOf i).toNat)
    case atStart => exact ⟨0, Nat.zero_le _, rfl, by rw [HM0.out]⟩
    case round =>
      obtain ⟨k, hk, rfl, rfl⟩ := hrel
      by_cases hlt : k < m
      · have hc := H2.out (k + 1) (by omega)
        have HE : Hid (minTo xs (k + 1) = min (minTo xs k) (nth xs (k + 1))) := rfl
        generalize minTo xs k = s at *
        generalize nth xs (k + 1) = x at *
        go_wp2_with fail
        go_round
        case rel => exact ⟨k + 1, by omega, by go_num, by rw [HE.out]⟩
        case measure => simp [intOf]; omega
      · obtain rfl : k = m := by omega
        go_wp2_with fail
        go_ret
        exact ⟨rfl, rfl⟩
def maxTo (xs : List Int) : Nat → Int
  | 0 => nth xs 0
  | k + 1 => max (maxTo xs k) (nth xs (k + 1))
theorem maxTo_bd {xs : List Int} {lo hi : Int} {n : Nat} (h : ∀ j, j < n → lo ≤ nth xs j ∧ nth xs j ≤ hi) : ∀ k, k < n → lo ≤ maxTo xs k ∧ maxTo xs k ≤ hi
  | 0, hk => h 0 hk
  | k + 1, hk => by
    have a := maxTo_bd h k (by omega)
    have b := h (k + 1) hk
    simp only [maxTo]
    omega
set_option maxHeartbeats 1000000 in
theorem maxFix_c (xs : List Int) (v : Value) (w : World) (hv : Ints w v xs) (h0 : 0 < xs.length) :
    Calls Try.prog 19 #[v] w fun e w' => e = .returned (.int .i64 (maxTo xs (xs.length - 1))) ∧ w = w' := by
  rcases hv with ⟨q, cap, rfl, rfl⟩ | ⟨b, off, cap, rfl, -, h1, h2, h3⟩
  · simp at h0
  · have H2 : Hid (∀ i, i < xs.length → w.cell? ⟨b, off + i, none⟩ = some (.int .i64 (nth xs i))) := h2
    have hc0 := h2 0 h0
    rw [Nat.add_zero] at hc0
    clear h2 h3
    generalize xs.length = n at *
    obtain ⟨m, rfl⟩ : ∃ m, n = m + 1 := ⟨n - 1, by omega⟩
    rw [Nat.add_sub_cancel]
    have HM0 : Hid (maxTo xs 0 = nth xs 0) := rfl
    generalize nth xs 0 = x0 at *
    go_enter Try.func19, Try.ntmps19
    go_wp2_with fail
    go_loop [3, 4] (fun s i => ∃ k : Nat, k ≤ m ∧ i = .int .i64 (k + 1 : Nat) ∧ s = .int .i64 (maxTo xs k)) (fun _ i => m + 1 - (intOf i).toNat)
    case atStart => exact ⟨0, Nat.zero_le _, rfl, by rw [HM0.out]⟩
    case round =>
      obtain ⟨k, hk, rfl, rfl⟩ := hrel
      by_cases hlt : k < m
      · have hc := H2.out (k + 1) (by omega)
        have HE : Hid (maxTo xs (k + 1) = max (maxTo xs k) (nth xs (k + 1))) := rfl
        generalize maxTo xs k = s at *
        generalize nth xs (k + 1) = x at *
        go_wp2_with fail
        go_round
        case rel => exact ⟨k + 1, by omega, by go_num, by rw [HE.out]⟩
        case measure => simp [intOf]; omega
      · obtain rfl : k = m := by omega
        go_wp2_with fail
        go_ret
        exact ⟨rfl, rfl⟩
theorem mean1_c (x : Int) (w : World) : Calls Try.prog 13 #[.int .i64 x] w fun e w' => e = .returned (.bool (!wB x (-68719476736) 68719476736)) ∧ w = w' := by
  cases h : wB x (-68719476736) 68719476736
  all_goals
    have H : Hid (wB x (-68719476736) 68719476736 = _) := h
    clear h
    go_enter Try.func13, Try.ntmps13
    go_wp2_with (go_at_call 14; refine (withinFix_c _ _ _ _).mono ?_; rintro e w' ⟨rfl, rfl⟩; rw [H.out])
    go_ret
    exact ⟨rfl, rfl⟩
theorem mean1_pure (xs : List Int) : PureFn 13 #[] xs (fun x => !wB x (-68719476736) 68719476736) :=
  ⟨enters_of Try.func13 (by kernel_rfl) rfl, fun x _ w => mean1_c x w⟩
def wsum (cs vs : List Int) (k : Nat) : Int := sumTo (fun i => nth cs i * nth vs i) k
theorem mul_bd {n x N X : Int} (h0 : 0 ≤ n) (h1 : n ≤ N) (h2 : -X ≤ x) (h3 : x ≤ X) : -(N * X) ≤ n * x ∧ n * x ≤ N * X := by
  have hX : 0 ≤ X := by omega
  have a : n * x ≤ N * X := Int.le_trans (Int.mul_le_mul_of_nonneg_left h3 h0) (Int.mul_le_mul_of_nonneg_right h1 hX)
  have b : n * (-x) ≤ N * X := Int.le_trans (Int.mul_le_mul_of_nonneg_left (show -x ≤ X by omega) h0) (Int.mul_le_mul_of_nonneg_right h1 hX)
  rw [Int.mul_neg] at b
  omega
theorem sumTo_abs {f : Nat → Int} {M : Int} {n : Nat} (h : ∀ j, j < n → -M ≤ f j ∧ f j ≤ M) : ∀ k, k ≤ n → -(M * k) ≤ sumTo f k ∧ sumTo f k ≤ M * k
  | 0, _ => by simp [sumTo]
  | k + 1, hk => by
    obtain ⟨a, b⟩ := sumTo_abs h k (by omega)
    obtain ⟨c, d⟩ := h k (by omega)
    have e : M * ((k + 1 : Nat) : Int) = M * k + M := by rw [Int.natCast_add, Int.mul_add]; simp
    rw [e]
    simp only [sumTo]
    omega
theorem prod_fits {n x : Int} (h0 : 0 ≤ n) (h1 : n ≤ 1000000) (h2 : -68719476736 ≤ x) (h3 : x ≤ 68719476736) :
    ∃ p, IntKind.i64.wrap (n * x) = p ∧ -68719476736000000 ≤ p ∧ p ≤ 68719476736000000 ∧ Hid (n * x = p) := by
  obtain ⟨a, b⟩ := mul_bd h0 h1 h2 h3
  refine ⟨n * x, ?_, by omega, by omega, rfl⟩
  generalize n * x = k at *
  rw [IntKind.wrap_i64]
  omega
def totalI (cs vs : List Int) (d x : Int) : Int := d * x + wsum cs vs cs.length
set_option maxHeartbeats 1000000 in
theorem meanf_c (cs vs : List Int) (d x how : Int) (K : FuncId) (v u : Value) (w : World) (hv : Ints w v cs) (hu : Ints w u vs) (hen : ∀ args w, (callFunc K args).run Try.prog w = .ok (.enter K args) w)
    (hK : Calls Try.prog K #[u] w fun e w' => e = .returned (.int .i64 x) ∧ w = w') (hc : countB cs = true) (hl : vs.length = cs.length) (hvs : ∀ j, j < vs.length → -68719476736 ≤ nth vs j ∧ nth vs j ≤ 68719476736)
    (hd1 : 1 ≤ d) (hd2 : d ≤ 1000) (hx : -68719476736 ≤ x ∧ x ≤ 68719476736) (hh : how = 1 ∨ how = 2) :
    Calls Try.prog 17 #[v, u, .int .i64 d, .func (.func K) #[] #[], .int .i64 how] w fun e w' => e = .returned (.int .i64 (rndQ how (totalI cs vs d x) (sumI cs + d))) ∧ Below w.heap.size w w' := by
  have HV : Hid (Ints w v cs) := hv
  obtain ⟨⟨n1, n2⟩, -⟩ := (countB_iff cs).1 hc
  obtain ⟨hs1, hs2⟩ := sum_bd n2 (countB_bd hc)
  have HC : Hid (∀ j, j < cs.length → 0 ≤ nth cs j ∧ nth cs j ≤ 1000000) := countB_bd hc
  have HSC : Hid (Calls Try.prog 21 #[v] w fun e w' => e = .returned (.int .i64 (sumI cs)) ∧ w = w') := sum_c cs v w hv n2 (countB_bd hc)
  have HB : Hid (∀ k, k ≤ cs.length → -(68719476736000000 * (k : Int)) ≤ wsum cs vs k ∧ wsum cs vs k ≤ 68719476736000000 * k) := by
    refine sumTo_abs (n := cs.length) fun j hj => ?_
    obtain ⟨a, b⟩ := countB_bd hc j hj
    obtain ⟨e, f⟩ := hvs j (by omega)
    have := mul_bd a b e f
    omega
  have HVS : Hid (∀ j, j < vs.length → -68719476736 ≤ nth vs j ∧ nth vs j ≤ 68719476736) := hvs
  obtain ⟨dx, ew, e1, e2, HDX⟩ := prod_fits (show 0 ≤ d by omega) (show d ≤ 1000000 by omega) hx.1 hx.2
  have HSH : Hid (∀ a b, 0 < b → b ≤ 2147483648 → -4611686018427387904 ≤ a → a ≤ 4611686018427387904 → ∀ w, Calls Try.prog 29 #[.int .i64 a, .int .i64 b, .int .i64 how] w fun e w' => e = .returned (.tuple #[.int .i64 (rndQ how a b), .int .i64 0]) ∧ Below w.heap.size w w') := fun a b h1 h2 h3 h4 w => share_c a b how w hh h1 h2 h3 h4
  have HKK : Hid (Calls Try.prog K #[u] w fun e w' => e = .returned (.int .i64 x) ∧ w = w') := hK
  have hcall : ∀ w, (callFunc K #[u]).run Try.prog w = .ok (.enter K #[u]) w := fun w => hen _ w
  have HT : Hid (totalI cs vs d x = dx + wsum cs vs cs.length) := by show _ = _; unfold totalI; rw [HDX.out]
  clear hc hh hvs hK hen hx HDX
  rcases hv with ⟨_, _, _, rfl⟩ | ⟨b, off, cap, rfl, g0, g1, g2, g3⟩
  · simp at n1
  rcases hu with ⟨_, _, _, rfl⟩ | ⟨b', off', cap', rfl, k0, k1, k2, k3⟩
  · simp at hl; omega
  have G2 : Hid (∀ i, i < cs.length → w.cell? ⟨b, off + i, none⟩ = some (.int .i64 (nth cs i))) := g2
  have K2 : Hid (∀ i, i < vs.length → w.cell? ⟨b', off' + i, none⟩ = some (.int .i64 (nth vs i))) := k2
  clear g2 g3 k2 k3
  rw [hl] at *
  clear hl
  generalize cs.length = n at *
  generalize sumI cs = S at *
  have hsd : S + d ≤ 2147483648 := by omega
  have hsd0 : 0 < S + d := by omega
  go_enter Try.func17, Try.ntmps17
  go_wp2_with (go_at_fn K; refine HKK.out.mono ?_; rintro e w' ⟨rfl, rfl⟩)
  go_loop [11, 12, 13, 23] (fun s _ _ i => ∃ k : Nat, k ≤ n ∧ i = .int .i64 k ∧ s = .int .i64 (dx + wsum cs vs k)) (fun _ _ _ i => n - (intOf i).toNat)
  case atStart => exact ⟨0, Nat.zero_le _, rfl, by show _ = Value.int .i64 (dx + 0); rw [Int.add_zero]⟩
  case round =>
    obtain ⟨k, hk, rfl, rfl⟩ := hrel
    obtain ⟨b1, b2⟩ := HB.out k hk
    by_cases hlt : k < n
    · have hc := G2.out k hlt
      have hc2 := K2.out k hlt
      obtain ⟨z1, z2⟩ := HC.out k hlt
      obtain ⟨y1, y2⟩ := HVS.out k hlt
      obtain ⟨p, ep, p1, p2, HP⟩ := prod_fits z1 z2 y1 y2
      have HE : Hid (wsum cs vs (k + 1) = wsum cs vs k + p) := by show _ = _; rw [← HP.out]; rfl
      clear HP
      generalize wsum cs vs k = s at *
      generalize nth cs k = z at *
      generalize nth vs k = y at *
      go_wp2_with fail
      go_round
      case rel => exact ⟨k + 1, by omega, by go_num, by rw [HE.out, Int.add_assoc]⟩
      case measure => simp [intOf]; omega
    · obtain rfl : k = n := by omega
      generalize wsum cs vs k = s at *
      go_wp2_with (first
        | (go_at_call 21; refine HSC.out.mono ?_; rintro e w' ⟨rfl, rfl⟩)
        | (go_at_call 29; refine (HSH.out _ _ hsd0 hsd (by omega) (by omega) _).mono ?_; rintro e w1 ⟨rfl, hb⟩))
      go_ret
      exact ⟨ret_i64 (by rw [HT.out]), hb⟩
def mnOk (cs vs : List Int) (d : Int) : Bool := countB cs && (decide (vs.length = cs.length) && (!(vs.any fun x => !wB x (-68719476736) 68719476736) && wB d 1 1000))
theorem mnOk_vals {cs vs : List Int} {d : Int} (h : mnOk cs vs d = true) : countB cs = true ∧ vs.length = cs.length ∧ (∀ j, j < vs.length → -68719476736 ≤ nth vs j ∧ nth vs j ≤ 68719476736) ∧ 1 ≤ d ∧ d ≤ 1000 := by
  simp only [mnOk, Bool.and_eq_true, decide_eq_true_eq, Bool.not_eq_true', List.any_eq_false, wB_iff] at h
  obtain ⟨h1, h2, h3, h4⟩ := h
  refine ⟨h1, h2, fun j hj => ?_, h4.1, h4.2⟩
  have := h3 _ (getD_mem hj)
  rw [Bool.not_eq_false] at this
  exact (wB_iff _ _ _).1 this
def mnLow (cs vs : List Int) (d : Int) : Int := rndQ 1 (totalI cs vs d (minTo vs (vs.length - 1))) (sumI cs + d)
def mnHigh (cs vs : List Int) (d : Int) : Int := rndQ 2 (totalI cs vs d (maxTo vs (vs.length - 1))) (sumI cs + d)
set_option maxHeartbeats 1000000 in
theorem mean_ok (cs vs : List Int) (d : Int) (v u : Value) (w : World) (hv : Ints w v cs) (hu : Ints w u vs) (h : mnOk cs vs d = true) :
    Calls Try.prog 7 #[v, u, .int .i64 d] w fun e w' => e = .returned (.tuple #[.int .i64 (mnLow cs vs d), .int .i64 (mnHigh cs vs d), .int .i64 0]) ∧ Below w.heap.size w w' := by
  obtain ⟨h1, h2, h3, h4, h5⟩ := mnOk_vals h
  have n1 : 0 < vs.length := by have := ((countB_iff cs).1 h1).1.1; omega
  have HL : Hid (∀ w, Ints w v cs → Ints w u vs → Calls Try.prog 17 #[v, u, .int .i64 d, .func (.func 18) #[] #[], .int .i64 1] w fun e w' => e = .returned (.int .i64 (mnLow cs vs d)) ∧ Below w.heap.size w w') :=
    fun w hv hu => meanf_c cs vs d _ 1 _ v u w hv hu (enters_of Try.func18 (by kernel_rfl) rfl) (minFix_c vs u w hu n1) h1 h2 h3 h4 h5 (minTo_bd h3 _ (by omega)) (.inl rfl)
  have HH : Hid (∀ w, Ints w v cs → Ints w u vs → Calls Try.prog 17 #[v, u, .int .i64 d, .func (.func 19) #[] #[], .int .i64 2] w fun e w' => e = .returned (.int .i64 (mnHigh cs vs d)) ∧ Below w.heap.size w w') :=
    fun w hv hu => meanf_c cs vs d _ 2 _ v u w hv hu (enters_of Try.func19 (by kernel_rfl) rfl) (maxFix_c vs u w hu n1) h1 h2 h3 h4 h5 (maxTo_bd h3 _ (by omega)) (.inr rfl)
  have HC : Hid (Calls Try.prog 12 #[v] w fun e w' => e = .returned (.bool true) ∧ w = w') := by have := counted_c cs v w hv; rw [h1] at this; exact this
  simp only [mnOk, Bool.and_eq_true, Bool.not_eq_true'] at h
  obtain ⟨-, -, h6, h7⟩ := h
  have HO : Hid (Calls Try.prog 15 #[u, .func (.func 13) #[] #[]] w fun e w' => e = .returned (.bool false) ∧ w = w') := by
    have := containsFuncFix_c 13 #[] vs _ u w (mean1_pure vs) hu
    rw [h6] at this; exact this
  have H7 : Hid (wB d 1 1000 = true) := h7
  have HV : Hid (Ints w v cs) := hv
  have HU : Hid (Ints w u vs) := hu
  obtain ⟨p, cap, rfl⟩ := hv.shape
  obtain ⟨p', cap', rfl⟩ := hu.shape
  have hbn : ((vs.length : Int) != (cs.length : Int)) = false := by rw [h2]; simp
  clear h1 h2 h3 h6 h7 hv hu
  go_enter Try.func7, Try.ntmps7
  go_wp2_with (first
    | (go_at_call 12; refine HC.out.mono ?_; rintro e w' ⟨rfl, rfl⟩)
    | (go_at_call 15; refine HO.out.mono ?_; rintro e w' ⟨rfl, rfl⟩)
    | (go_at_call 16; refine (within_c _ _ _ _).mono ?_; rintro e w' ⟨rfl, rfl⟩; rw [H7.out])
    | (go_at_call 17; with_reducible refine (HL.out _ HV.out HU.out).mono ?_; rintro e w1 ⟨rfl, hb1⟩)
    | (go_at_call 17; with_reducible refine (HH.out _ (HV.out.below hb1 (Nat.le_refl _)) (HU.out.below hb1 (Nat.le_refl _))).mono ?_; rintro e w2 ⟨rfl, hb2⟩))
  go_ret3
  exact ⟨rfl, hb1.trans (hb2.mono hb1.size)⟩
set_option maxHeartbeats 1000000 in
theorem mean_bad (cs vs : List Int) (d : Int) (v u : Value) (w : World) (hv : Ints w v cs) (hu : Ints w u vs) (h : mnOk cs vs d = false) :
    Calls Try.prog 7 #[v, u, .int .i64 d] w fun e w' => e = .returned (.tuple #[.int .i64 0, .int .i64 0, .int .i64 2]) ∧ Below w.heap.size w w' := by
  have HC : Hid (Calls Try.prog 12 #[v] w fun e w' => e = .returned (.bool (countB cs)) ∧ w = w') := counted_c cs v w hv
  have HO : Hid (Calls Try.prog 15 #[u, .func (.func 13) #[] #[]] w fun e w' => e = .returned (.bool (vs.any fun x => !wB x (-68719476736) 68719476736)) ∧ w = w') :=
    containsFuncFix_c 13 #[] vs _ u w (mean1_pure vs) hu
  obtain ⟨p, cap, rfl⟩ := hv.shape
  obtain ⟨p', cap', rfl⟩ := hu.shape
  clear hv hu
  have hcases : ∃ b1 b2 b3 b4 : Bool, countB cs = b1 ∧ ((vs.length : Int) != (cs.length : Int)) = b2 ∧ (vs.any fun x => !wB x (-68719476736) 68719476736) = b3 ∧ wB d 1 1000 = b4 ∧ (!b1 || (b2 || (b3 || !b4))) = true := by
    refine ⟨_, _, _, _, rfl, rfl, rfl, rfl, ?_⟩
    unfold mnOk at h
    have e : decide (vs.length = cs.length) = !((vs.length : Int) != (cs.length : Int)) := by
      rw [Bool.eq_iff_iff, decide_eq_true_eq, bne, Bool.not_not, beq_iff_eq]; omega
    rw [e] at h
    revert h
    generalize countB cs = b1
    generalize ((vs.length : Int) != (cs.length : Int)) = b2
    generalize (vs.any fun x => !wB x (-68719476736) 68719476736) = b3
    generalize wB d 1 1000 = b4
    revert b1 b2 b3 b4
    decide
  obtain ⟨b1, b2, b3, b4, e1, e2, e3, e4, e5⟩ := hcases
  rw [e1] at HC
  rw [e3] at HO
  have H4 := Hid.mk' e4
  clear e1 e3 e4 h
  cases b1
  · clear e5
    go_enter Try.func7, Try.ntmps7
    go_wp2_with (go_at_call 12; refine HC.out.mono ?_; rintro e w' ⟨rfl, rfl⟩)
    go_ret3
    exact ⟨rfl, Below.refl _ _⟩
  cases b2
  case true =>
    clear e5
    go_enter Try.func7, Try.ntmps7
    go_wp2_with (go_at_call 12; refine HC.out.mono ?_; rintro e w' ⟨rfl, rfl⟩)
    go_ret3
    exact ⟨rfl, Below.refl _ _⟩
  cases b3
  case true =>
    clear e5
    go_enter Try.func7, Try.ntmps7
    go_wp2_with (first
      | (go_at_call 12; refine HC.out.mono ?_; rintro e w' ⟨rfl, rfl⟩)
      | (go_at_call 15; refine HO.out.mono ?_; rintro e w' ⟨rfl, rfl⟩))
    go_ret3
    exact ⟨rfl, Below.refl _ _⟩
  cases b4
  case true => simp at e5
  clear e5
  go_enter Try.func7, Try.ntmps7
  go_wp2_with (first
    | (go_at_call 12; refine HC.out.mono ?_; rintro e w' ⟨rfl, rfl⟩)
    | (go_at_call 15; refine HO.out.mono ?_; rintro e w' ⟨rfl, rfl⟩)
    | (go_at_call 16; refine (within_c _ _ _ _).mono ?_; rintro e w' ⟨rfl, rfl⟩; rw [H4.out]))
  go_ret3
  exact ⟨rfl, Below.refl _ _⟩
end Go.Proofs.Yteaadpgpihggeaa

namespace Go.Proofs.Yteaadpgpihggeaa
open Go.RowKit
theorem few_c (w : World) : Calls Try.prog 9 #[] w fun e w' => e = .returned (.slice (some ⟨w.heap.size, 0, none⟩) 3 3) ∧ w' = w.alloc (.cells #[.int .i64 6, .int .i64 3, .int .i64 1] 3) := by
  go_enter Try.func9, Try.ntmps9
  go_wp2
  go_ret
  exact ⟨rfl, rfl⟩
def drawC : Cal := ⟨0, 0, ⟨0, 0, 0, 1000, 0⟩, [], 10, 20⟩
theorem draw_c (w : World) : Calls Try.prog 11 #[] w fun e w' => e = .returned (.agg (drawC.cells (.slice none 0 0))) ∧ Below w.heap.size w w' := by
  go_enter Try.func11, Try.ntmps11
  go_wp2
  exact bodyPost_ret (v := .agg #[.int .i64 0, .int .i64 0, .int .i64 0, .int .i64 0, .int .i64 0, .int .i64 1000, .int .i64 0, .slice none 0 0, .int .i64 10, .int .i64 20]) (by simp [results, Try.results11, go_sem]) rfl ⟨rfl, (Below.refl _ _).alloc (Nat.le_refl _) _⟩
theorem ints_built {w : World} {B : Nat} (xs : List Int) (h0 : 0 < xs.length) (hb : ∀ x ∈ xs, -9223372036854775808 ≤ x ∧ x ≤ 9223372036854775807) (hl : xs.length ≤ 100) (hc : ∀ i, i < xs.length → w.cell? ⟨B, i, none⟩ = some (.int .i64 (nth xs i))) :
    Ints w (.slice (some ⟨B, 0, none⟩) xs.length xs.length) xs :=
  .inr ⟨B, 0, xs.length, rfl, h0, by omega, fun i hi => by rw [Nat.zero_add]; exact hc i hi, hb⟩
theorem alive_vals : chOk [6, 3, 1] [1, 2] 2 = true ∧ chLow [6, 3, 1] [1, 2] 2 = 4 ∧ chHigh [6, 3, 1] [1, 2] 2 = 6 ∧ sumI [6, 3, 1] = 10 ∧ mnOk [6, 3, 1] [0, 65536, 131072] 2 = true ∧ mnLow [6, 3, 1] [0, 65536, 131072] 2 = 27306 ∧ mnHigh [6, 3, 1] [0, 65536, 131072] 2 = 49152 ∧ thErr drawC 0 = 0 ∧ thBody drawC 0 = ⟨0, 0, ⟨0, 0, -30, 940, 0⟩, false⟩ := by
  refine ⟨by decide +kernel, by decide +kernel, by decide +kernel, by decide +kernel, by decide +kernel, by decide +kernel, by decide +kernel, by decide +kernel, by rfl⟩
theorem ints_few {w w' : World} (hb : Below (w.heap.size + 1) (w.alloc (.cells #[.int .i64 6, .int .i64 3, .int .i64 1] 3)) w') : Ints w' (.slice (some ⟨w.heap.size, 0, none⟩) 3 3) [6, 3, 1] := by
  refine ints_built [6, 3, 1] (by simp) (by simp) (by simp) fun i hi => ?_
  rw [hb.cell (p := ⟨w.heap.size, i, none⟩) (by simp)]
  match i with
  | 0 => simp [go_sem, nth]
  | 1 => simp [go_sem, nth]
  | 2 => simp [go_sem, nth]
  | i + 3 => simp at hi; omega
theorem ints_12 {w w' : World} {t : TypeId} (hb : Below (w.heap.size + 1) (w.alloc (.cells #[.int .i64 1, .int .i64 2] t)) w') : Ints w' (.slice (some ⟨w.heap.size, 0, none⟩) 2 2) [1, 2] := by
  refine ints_built [1, 2] (by simp) (by simp) (by simp) fun i hi => ?_
  rw [hb.cell (p := ⟨w.heap.size, i, none⟩) (by simp)]
  match i with
  | 0 => simp [go_sem, nth]
  | 1 => simp [go_sem, nth]
  | i + 2 => simp at hi; omega
theorem ints_vals {w w' : World} {t : TypeId} (hb : Below (w.heap.size + 1) (w.alloc (.cells #[.int .i64 0, .int .i64 65536, .int .i64 131072] t)) w') : Ints w' (.slice (some ⟨w.heap.size, 0, none⟩) 3 3) [0, 65536, 131072] := by
  refine ints_built [0, 65536, 131072] (by simp) (by simp) (by simp) fun i hi => ?_
  rw [hb.cell (p := ⟨w.heap.size, i, none⟩) (by simp)]
  match i with
  | 0 => simp [go_sem, nth]
  | 1 => simp [go_sem, nth]
  | 2 => simp [go_sem, nth]
  | i + 3 => simp at hi; omega
theorem few_i (w : World) : Calls Try.prog 9 #[] w fun e w' => e = .returned (.slice (some ⟨w.heap.size, 0, none⟩) 3 3) ∧ Below w.heap.size w w' ∧ Ints w' (.slice (some ⟨w.heap.size, 0, none⟩) 3 3) [6, 3, 1] :=
  (few_c w).mono fun e w' ⟨h1, h2⟩ => by
    subst h2
    exact ⟨h1, (Below.refl _ _).alloc (Nat.le_refl _) _, ints_few (Below.refl _ _)⟩
set_option maxHeartbeats 2000000 in
theorem alive_c (w : World) : Calls Try.prog 4 #[] w fun e w' => e = .returned (.bool true) ∧ Below w.heap.size w w' := by
  obtain ⟨v1, v2, v3, v4, v5, v6, v7, v8, v9⟩ := alive_vals
  have HCH : Hid (∀ w v u, Ints w v [6, 3, 1] → Ints w u [1, 2] → Calls Try.prog 8 #[v, u, .int .i64 2] w fun e w' => e = .returned (.tuple #[oddsV 4 12, oddsV 6 12, .int .i64 0]) ∧ Below w.heap.size w w') := fun w v u h1 h2 => by
    have := chance_ok [6, 3, 1] [1, 2] 2 v u w h1 h2 v1
    rw [v2, v3, v4] at this; exact this
  have HMN : Hid (∀ w v u, Ints w v [6, 3, 1] → Ints w u [0, 65536, 131072] → Calls Try.prog 7 #[v, u, .int .i64 2] w fun e w' => e = .returned (.tuple #[.int .i64 27306, .int .i64 49152, .int .i64 0]) ∧ Below w.heap.size w w') := fun w v u h1 h2 => by
    have := mean_ok [6, 3, 1] [0, 65536, 131072] 2 v u w h1 h2 v5
    rw [v6, v7] at this; exact this
  have HTH : Hid (∀ w, Calls Try.prog 10 #[.agg (drawC.cells (.slice none 0 0)), .int .i64 0] w fun e w' => e = .returned (.tuple #[.agg #[.int .i64 0, .int .i64 0, .int .i64 0, .int .i64 0, .int .i64 (-30), .int .i64 940, .int .i64 0, .bool false], .int .i64 0]) ∧ Below w.heap.size w w') := fun w => by
    have := throw_c drawC (.slice none 0 0) 0 w (.inl ⟨none, 0, rfl, rfl⟩)
    rw [v8, v9] at this; exact this
  clear v1 v2 v3 v4 v5 v6 v7 v8 v9
  go_enter Try.func4, Try.ntmps4
  go_wp2_with fail
  refine (few_i _).mono ?_
  rintro e w1 ⟨rfl, hb1, hi1⟩
  have HI1 := Hid.mk' hi1
  clear hi1
  go_wp2_with fail
  refine (HCH.out _ _ _ ?_ ?_).mono ?_
  · exact HI1.out.below ((Below.refl _ _).alloc (Nat.le_refl _) _) (Nat.le_refl _)
  · exact ints_12 (Below.refl _ _)
  rintro e w2 ⟨rfl, hb2⟩
  have hB2 : Below w.heap.size w w2 := hb1.trans (((Below.refl _ _).alloc hb1.size _).trans (hb2.mono (by have := hb1.size; simp <;> omega)))
  clear hb1 hb2 HI1
  go_wp2_with fail
  refine (few_i _).mono ?_
  rintro e w3 ⟨rfl, hb3, hi3⟩
  rw [World.size_alloc, World.size_alloc] at hi3
  have HI3 := Hid.mk' hi3
  clear hi3
  go_wp2_with fail
  refine (HMN.out _ _ _ ?_ ?_).mono ?_
  · exact HI3.out.below ((Below.refl _ _).alloc (Nat.le_refl _) _) (Nat.le_refl _)
  · exact ints_vals (Below.refl _ _)
  rintro e w4 ⟨rfl, hb4⟩
  have hB4 := hb3.trans (((Below.refl _ w3).alloc hb3.size (.cells #[.int .i64 0, .int .i64 65536, .int .i64 131072] 27)).trans (hb4.mono (by have := hb3.size; simp at * <;> omega)))
  clear hb3 hb4 HI3
  go_wp2_with fail
  refine (draw_c _).mono ?_
  rintro e w5 ⟨rfl, hb5⟩
  go_wp2_with fail
  refine (HTH.out _).mono ?_
  rintro e w6 ⟨rfl, hb6⟩
  have hB6 := hB4.trans ((hb5.mono hB4.size).trans (hb6.mono (Nat.le_trans hB4.size hb5.size)))
  obtain ⟨hc1, hc2, hf1, hf2, hz⟩ := two_new hB6
  have a0 := hc1 0
  have a1 := hc1 1
  have b0 := hc2 0
  have b1 := hc2 1
  have hz0 : w2.heap.size < w6.heap.size := by omega
  have HB6 := Hid.mk' hB6
  clear hc1 hc2 hf1 hf2 hB6 hB4 hb5 hb6
  go_wp2_with fail
  go_ret
  refine ⟨rfl, ?_⟩
  exact (hB2.trans ((((Below.refl _ _).alloc hB2.size _).alloc (by have := hB2.size; simp <;> omega) _).trans (HB6.out.mono (by have := hB2.size; simp <;> omega)))).alloc (by have := hB2.size; omega) _
end Go.Proofs.Yteaadpgpihggeaa

namespace Go.Proofs.Yteaadpgpihggeaa
open Go.RowKit
def longB (x : List Int) : Bool := decide ((x.length : Int) > 60)
def oddF : List AVal → Option AOut
  | [.ro (.sl (.int .i64)) l] => some (.ret (.bool (List.any (α := List Int) l longB)))
  | _ => none
theorem odd_enter (args : Array Value) (w : World) : (callFunc 5 args).run Try.prog w = .ok (.enter 5 args) w := by kernel_rfl
theorem odd_text (N : Nat) (α : Type) (l : List (List Int)) (k : AOut → Option α) : evFn real tab (envF env0) N Try.f5 α [.ro (.sl (.int .i64)) l] k =
 afterL (iterL N (fun x : Int × Unit => bif decide (x.1 < (l.length : Int)) then if 0 ≤ x.1 ∧ x.1 < (l.length : Int) then bif decide (((l.getD x.1.toNat []).length : Int) > 60) then
 finL (k (AOut.ret (AVal.bool true))) else some (LRes.cont (IntKind.i64.wrap (x.1 + 1), ())) else none else some (LRes.brk 0 (x.1, ()))) (0, ())) fun id _ => if id = 0 then k
 (AOut.ret (AVal.bool false)) else none := by kernel_rfl
theorem any_rangeL (xs : List (List Int)) (q : List Int → Bool) : ((List.range xs.length).any fun i => q (xs.getD i [])) = xs.any q := by
  rw [Bool.eq_iff_iff, List.any_eq_true, List.any_eq_true]
  constructor
  · rintro ⟨i, hi, h⟩
    have hi := List.mem_range.1 hi
    rw [List.getD_eq_getElem?_getD, List.getElem?_eq_getElem hi] at h
    exact ⟨_, List.getElem_mem hi, h⟩
  · rintro ⟨x, hx, h⟩
    obtain ⟨i, hi, rfl⟩ := List.mem_iff_getElem.1 hx
    exact ⟨i, List.mem_range.2 hi, by rw [List.getD_eq_getElem?_getD, List.getElem?_eq_getElem hi]; exact h⟩
theorem odd_plain {α : Type} (l : List (List Int)) (hl : l.length ≤ maxLen) (k : AOut → Option α) : evFn real tab (envF env0) (l.length + 1) Try.f5 α [.ro (.sl (.int .i64)) l] k = k (.ret (.bool (l.any longB))) := by
  rw [odd_text]
  generalize hf : (fun x : Int × Unit => (_ : Option (LRes (Int × Unit) α))) = f
  have e : iterL (l.length + 1) f (0, ()) = bif (List.range l.length).any (fun i => longB (l.getD i [])) then finL (k (AOut.ret (AVal.bool true))) else some (.brk 0 ((l.length : Int), ())) := by
    refine iterL_any (f := f) (fun i : Nat => ((i : Int), ())) _ (fin_not _) (brk_not _ _) l.length (fun i hi => ?_) ?_
    · rw [← hf]
      have h1 : decide ((i : Int) < (l.length : Int)) = true := decide_eq_true (by omega)
      have h2 : IntKind.i64.wrap ((i : Int) + 1) = ((i + 1 : Nat) : Int) := wrap_small (n := i + 1) (by omega)
      simp only [h1, cond_true, h2]
      rw [if_pos ⟨by omega, by omega⟩]
      rfl
    · rw [← hf]
      have h1 : decide ((l.length : Int) < (l.length : Int)) = false := decide_eq_false (by omega)
      simp only [h1, cond_false]
  rw [e, any_rangeL l longB]
  cases l.any longB
  · rfl
  · simp only [cond_true]
    cases k (.ret (.bool true)) <;> rfl
theorem odd_ok : FspOk Try.prog 5 (toFsp oddF) := fsp_of mixed tabOk env_nil Try.func5 odd_enter fun args out hs hF => by
  unfold oddF at hF
  split at hF
  · rename_i l
    cases hF
    exact ⟨_, odd_plain l (hs _ (by simp)).len some⟩
  · cases hF
def aliveF : List AVal → Option AOut
  | [] => some (.ret (.bool true))
  | _ => none
theorem alive_ok : FspOk Try.prog 4 (toFsp aliveF) where
  enter := fun args w => by kernel_rfl
  nat := toFsp_nat _
  calls := fun args out hout M w cargs hM hl hr => by
    have hF := toFsp_some hout
    unfold aliveF at hF
    split at hF
    · cases hF
      obtain ⟨l⟩ := cargs
      match l, hl with
      | [], _ =>
        refine (alive_c w).mono ?_
        rintro e w' ⟨rfl, hb⟩
        exact cpost_flat hM hb (.bool _)
    · cases hF
theorem fsp_same {P : Program} {f : FuncId} {F G : List AVal → Option AOut} (h : ∀ args out, G args = some out → F args = some out) (hF : FspOk P f (toFsp F)) : FspOk P f (toFsp G) where
  enter := hF.enter
  nat := toFsp_nat _
  calls := fun args out hout => hF.calls args out (by
    have := h args out (toFsp_some hout)
    unfold toFsp
    rw [this])
/-! What the functions give, without cases. -/
def chE (xs ys : List Int) (m : Int) : Int := bif chnB xs ys m then 0 else 2
def chL (xs ys : List Int) (m : Int) : Int := bif chnB xs ys m then lowC xs ys m else 0
def chH (xs ys : List Int) (m : Int) : Int := bif chnB xs ys m then highD xs ys m else 0
def chD (xs ys : List Int) (m : Int) : Int := bif chnB xs ys m then denC xs m else 0
def schnG : List AVal → Option AOut
  | [.ro (.int .i64) xs, .ro (.int .i64) ys, .int .i64 m] => some (schnOut (chL xs ys m) (chD xs ys m) (chH xs ys m) (chD xs ys m) (chE xs ys m))
  | _ => none
def rchnG : List AVal → Option AOut
  | [.ro (.int .i64) xs, .ro (.int .i64) ys, .int .i64 m] => some (rchnOut (chL xs ys m) (chD xs ys m) (chH xs ys m) (chD xs ys m) (chE xs ys m))
  | _ => none
theorem schn_same : ∀ args out, schnG args = some out → schnF args = some out := fun args out h => by
  unfold schnG at h
  split at h
  · rename_i xs ys m
    cases h
    simp only [schnF, chE, chL, chH, chD]
    cases chnB xs ys m <;> rfl
  · cases h
theorem rchn_same : ∀ args out, rchnG args = some out → rchnF args = some out := fun args out h => by
  unfold rchnG at h
  split at h
  · rename_i xs ys m
    cases h
    simp only [rchnF, chE, chL, chH, chD]
    cases chnB xs ys m <;> rfl
  · cases h
def mnE (xs ls : List Int) (m : Int) : Int := bif meanB xs ls m then 0 else 2
def mnLo (xs ls : List Int) (m : Int) : Int := bif meanB xs ls m then rndQ 1 (totL xs ls m) (denC xs m) else 0
def mnHi (xs ls : List Int) (m : Int) : Int := bif meanB xs ls m then rndQ 2 (totH xs ls m) (denC xs m) else 0
def smeanG : List AVal → Option AOut
  | [.ro (.int .i64) xs, .ro (.int .i64) ls, .int .i64 m] => some (smean3 (mnLo xs ls m) (mnHi xs ls m) (mnE xs ls m))
  | _ => none
def rmeanG : List AVal → Option AOut
  | [.ro (.int .i64) xs, .ro (.int .i64) ls, .int .i64 m] => some (rmean3 (mnLo xs ls m) (mnHi xs ls m) (mnE xs ls m))
  | _ => none
theorem smean_same : ∀ args out, smeanG args = some out → smeanF args = some out := fun args out h => by
  unfold smeanG at h
  split at h
  · rename_i xs ls m
    cases h
    simp only [smeanF, mnE, mnLo, mnHi]
    cases meanB xs ls m <;> rfl
  · cases h
theorem rmean_same : ∀ args out, rmeanG args = some out → rmeanF args = some out := fun args out h => by
  unfold rmeanG at h
  split at h
  · rename_i xs ls m
    cases h
    simp only [rmeanF, mnE, mnLo, mnHi]
    cases meanB xs ls m <;> rfl
  · cases h
def gvB (xs ys : List Int) : Bool := cntB xs && evtB ys (List.length (α := Int) xs)
def gvR (xs ys : List Int) : List Int := bif gvB xs ys then givL xs ys else []
def gvE (xs ys : List Int) : Int := bif gvB xs ys then 0 else 2
def givG : List AVal → Option AOut
  | [.ro (.int .i64) xs, .ro (.int .i64) ys] => some (.ret (.tup [.ro (.int .i64) (gvR xs ys), iv (gvE xs ys)]))
  | _ => none
theorem giv_same : ∀ args out, givG args = some out → givF args = some out := fun args out h => by
  unfold givG at h
  split at h
  · rename_i xs ys
    cases h
    simp only [givF, gvR, gvE, gvB]
    cases cntB xs && evtB ys (List.length (α := Int) xs) <;> rfl
  · cases h
def btB (xs ys : List Int) : Bool := bif twoOk xs ys then rbetB xs ys else false
def btE (xs ys : List Int) : Int := bif twoOk xs ys then 0 else 2
def betG : List AVal → Option AOut
  | [.ro (.int .i64) xs, .ro (.int .i64) ys] => some (betOut (btB xs ys) (btE xs ys))
  | _ => none
theorem rbet_same : ∀ args out, betG args = some out → rbetF args = some out := fun args out h => by
  unfold betG at h
  split at h
  · rename_i xs ys
    cases h
    simp only [rbetF, btB, btE]
    cases twoOk xs ys <;> rfl
  · cases h
theorem sbet_same : ∀ args out, betG args = some out → sbetF args = some out := fun args out h => by
  unfold betG at h
  split at h
  · rename_i xs ys
    cases h
    simp only [sbetF, btB, btE]
    cases h2 : twoOk xs ys
    · rfl
    · rw [better_same h2]; rfl
  · cases h
def env13 : FuncId → Option Fsp := fun g =>
  if g = 5 then some (toFsp oddF) else
  if g = 4 then some (toFsp aliveF) else
  if g = 8 then some (toFsp schnG) else
  if g = 7 then some (toFsp smeanG) else
  if g = 6 then some (toFsp betG) else
  env12 g
theorem env13_ok : EnvOk Try.prog (envF env13) :=
  env_cons odd_ok <|
  env_cons alive_ok <|
  env_cons (fsp_same schn_same schance_ok) <|
  env_cons (fsp_same smean_same smean_ok) <|
  env_cons (fsp_same sbet_same sbetter_ok) <|
  env12_ok
end Go.Proofs.Yteaadpgpihggeaa

namespace Go.Proofs.Yteaadpgpihggeaa
open Go.RowKit
def moreIx (xs os : List Int) (i : Nat) : Nat :=
  bif decide ((os.length : Int) > 0) then ((IntKind.i64.wrap (os.getD ((i : Int).tmod os.length).toNat 0)).tmod xs.length).toNat else 0
def moreSt (xs os : List Int) : Nat → List Int
  | 0 => xs
  | i + 1 => (moreSt xs os i).set (moreIx xs os i) (IntKind.i64.wrap ((moreSt xs os i).getD (moreIx xs os i) 0 + 1))
def moreOk (xs : List Int) (d : Int) (os : List Int) : Prop := (1 ≤ xs.length ∧ xs.length ≤ 49) ∧ (0 ≤ d ∧ d ≤ 1000) ∧ (os.all fun o => decide (0 ≤ o) && decide (o ≤ 255)) = true
instance (xs : List Int) (d : Int) (os : List Int) : Decidable (moreOk xs d os) := by unfold moreOk; exact inferInstance
def moreB (xs : List Int) (d : Int) (os : List Int) : Bool := decide (moreOk xs d os)
def moreF : List AVal → Option AOut
  | [.ro (.int .i64) xs, .int .i64 d, .ro (.int .u8) os] => bif moreB xs d os then some (.ret (.ro (.int .i64) (moreSt xs os d.toNat))) else none
  | _ => none
theorem more_len (xs os : List Int) : ∀ i, (moreSt xs os i).length = xs.length
  | 0 => rfl
  | i + 1 => by simp [moreSt, more_len xs os i]
theorem tmod_in {a : Int} {n : Nat} (h : 0 ≤ a) (hn : 0 < n) : 0 ≤ a.tmod n ∧ a.tmod n < n := by
  refine ⟨Int.tmod_nonneg _ h, ?_⟩
  have := Int.tmod_lt_of_pos a (show (0 : Int) < n by omega)
  exact this
theorem more_of {xs : List Int} {d : Int} {os : List Int} (h : moreB xs d os = true) : moreOk xs d os := of_decide_eq_true h
def moreS : Fsp := fun _ args k =>
  match args with
  | [.ro (.int .i64) xs, .int .i64 d, .ro (.int .u8) os] => bif moreB xs d os then k (.ret (.ro (.int .i64) (moreSt xs os d.toNat))) else none
  | _ => none
theorem moreS_eq : moreS = toFsp moreF := by
  funext α args k
  unfold moreS toFsp moreF
  split
  · rename_i xs d os
    cases moreB xs d os <;> rfl
  · rfl
def env14 : FuncId → Option Fsp := fun g =>
  env13 g
theorem env14_ok : EnvOk Try.prog (envF env14) :=
  env13_ok
end Go.Proofs.Yteaadpgpihggeaa

namespace Go.Proofs.Yteaadpgpihggeaa
open Go.RowKit
def SP (f : Nat → Int) (p : Nat → Bool) : Nat → Int
  | 0 => 0
  | i + 1 => SP f p i + bif p i then f i else 0
abbrev at0 (l : List Int) : Nat → Int := fun i => l.getD i 0
def isIn (ys : List Int) (i : Nat) : Bool := ys.contains (i : Int)
theorem SP_congr {f g : Nat → Int} {p q : Nat → Bool} : ∀ n, (∀ i, i < n → p i = q i ∧ (p i = true → f i = g i)) → SP f p n = SP g q n
  | 0, _ => rfl
  | n + 1, h => by
    have ih := SP_congr n fun i hi => h i (by omega)
    obtain ⟨h1, h2⟩ := h n (by omega)
    simp only [SP, ih, ← h1]
    cases hp : p n
    · rfl
    · simp only [cond_true, h2 hp]
theorem SP_not (f : Nat → Int) (p : Nat → Bool) : ∀ n, SP f p n + SP f (fun i => !p i) n = SP f (fun _ => true) n
  | 0 => rfl
  | n + 1 => by
    have := SP_not f p n
    simp only [SP]
    cases p n <;> simp <;> omega
theorem SP_none (f : Nat → Int) : ∀ n, SP f (fun _ => false) n = 0
  | 0 => rfl
  | n + 1 => by simp [SP, SP_none f n]
theorem SP_in {f : Nat → Int} {p : Nat → Bool} {B : Int} (h : ∀ i, 0 ≤ f i ∧ f i ≤ B) : ∀ n : Nat, 0 ≤ SP f p n ∧ SP f p n ≤ n * B
  | 0 => by simp [SP]
  | n + 1 => by
    have := SP_in (p := p) h n
    have := h n
    have e : ((n + 1 : Nat) : Int) * B = n * B + B := by rw [Int.natCast_add, Int.add_mul]; simp
    simp only [SP]
    cases p n <;> simp only [cond_true, cond_false] <;> omega
theorem SP_le {f : Nat → Int} {p q : Nat → Bool} (h : ∀ i, 0 ≤ f i) (hpq : ∀ i, p i = true → q i = true) : ∀ n, SP f p n ≤ SP f q n
  | 0 => Int.le_refl _
  | n + 1 => by
    have := SP_le h hpq n
    have := h n
    simp only [SP]
    cases hp : p n
    · cases q n <;> simp <;> omega
    · rw [hpq n hp]; simp; omega
theorem SP_set (l : List Int) (p : Nat → Bool) (j : Nat) (hj : j < l.length) : ∀ n, SP (at0 (l.set j (l.getD j 0 + 1))) p n = SP (at0 l) p n + (if j < n ∧ p j = true then 1 else 0)
  | 0 => by simp [SP]
  | n + 1 => by
    have ih := SP_set l p j hj n
    simp only [SP, ih, at0]
    rcases Nat.lt_trichotomy j n with h | h | h
    · have e : (l.set j (l.getD j 0 + 1)).getD n 0 = l.getD n 0 := by
        rw [List.getD_eq_getElem?_getD, List.getElem?_set_ne (by omega), ← List.getD_eq_getElem?_getD]
      rw [e]
      cases hp : p j
      · simp
      · rw [if_pos ⟨h, rfl⟩, if_pos ⟨by omega, rfl⟩]; cases p n <;> simp <;> omega
    · subst h
      have e : (l.set j (l.getD j 0 + 1)).getD j 0 = l.getD j 0 + 1 := by
        rw [List.getD_eq_getElem?_getD, List.getElem?_set_self hj]; rfl
      rw [e, if_neg (by omega)]
      cases hp : p j
      · simp
      · rw [if_pos ⟨by omega, rfl⟩]; simp; omega
    · have e : (l.set j (l.getD j 0 + 1)).getD n 0 = l.getD n 0 := by
        rw [List.getD_eq_getElem?_getD, List.getElem?_set_ne (by omega), ← List.getD_eq_getElem?_getD]
      rw [e, if_neg (by omega), if_neg (by omega)]
      cases p n <;> simp
def came (p : Nat → Bool) (xs os : List Int) : Nat → Int
  | 0 => 0
  | i + 1 => came p xs os i + bif p (moreIx xs os i) then 1 else 0
theorem came_in (p : Nat → Bool) (xs os : List Int) : ∀ i : Nat, 0 ≤ came p xs os i ∧ came p xs os i ≤ i
  | 0 => by simp [came]
  | i + 1 => by
    have := came_in p xs os i
    simp only [came]
    cases p (moreIx xs os i) <;> simp <;> omega
theorem came_all (xs os : List Int) : ∀ i : Nat, came (fun _ => true) xs os i = i
  | 0 => rfl
  | i + 1 => by simp [came, came_all xs os i]
structure MoreIs (xs os : List Int) (i : Nat) : Prop where
  low : ∀ j, 0 ≤ (moreSt xs os i).getD j 0 ∧ (moreSt xs os i).getD j 0 ≤ 1000000 + i
  sum : ∀ p, SP (at0 (moreSt xs os i)) p xs.length = SP (at0 xs) p xs.length + came p xs os i
theorem os_at {xs os : List Int} {d : Int} (h : moreOk xs d os) (j : Nat) : 0 ≤ os.getD j 0 ∧ os.getD j 0 ≤ 255 := by
  rcases Nat.lt_or_ge j os.length with hj | hj
  · rw [List.getD_eq_getElem?_getD, List.getElem?_eq_getElem hj]
    have := List.all_eq_true.1 h.2.2 _ (List.getElem_mem hj)
    simpa using this
  · rw [List.getD_eq_getElem?_getD, List.getElem?_eq_none hj]; simp
theorem moreIx_lt {xs os : List Int} {d : Int} (h : moreOk xs d os) (i : Nat) : moreIx xs os i < xs.length := by
  have h1 := h.1
  unfold moreIx
  cases decide ((os.length : Int) > 0)
  · simp only [cond_false]; omega
  · have a2 := os_at h (((i : Int).tmod os.length).toNat)
    have a3 : IntKind.i64.wrap (os.getD ((i : Int).tmod os.length).toNat 0) = os.getD ((i : Int).tmod os.length).toNat 0 := i64_w _ (by omega)
    have a4 := tmod_in (a := os.getD ((i : Int).tmod os.length).toNat 0) (n := xs.length) a2.1 (by omega)
    simp only [cond_true, a3]
    omega
theorem more_is {xs os : List Int} {d : Int} (hc : cntB xs = true) (h : moreOk xs d os) : ∀ i : Nat, i ≤ d.toNat → MoreIs xs os i
  | 0, _ => ⟨fun j => by have := cnt_at hc j; simp only [moreSt]; omega, fun p => by simp [moreSt, came]⟩
  | i + 1, hi => by
    obtain ⟨h1, h2⟩ := more_is hc h i (by omega)
    have hd := h.2.1
    have hx := moreIx_lt h i
    have hl := more_len xs os i
    have hw : IntKind.i64.wrap ((moreSt xs os i).getD (moreIx xs os i) 0 + 1) = (moreSt xs os i).getD (moreIx xs os i) 0 + 1 := i64_w _ (by have := h1 (moreIx xs os i); omega)
    refine ⟨fun j => ?_, fun p => ?_⟩
    · simp only [moreSt, hw]
      by_cases hj : moreIx xs os i = j
      · subst hj
        rw [List.getD_eq_getElem?_getD, List.getElem?_set_self (by omega)]
        have := h1 (moreIx xs os i)
        simp only [Option.getD_some]
        omega
      · rw [List.getD_eq_getElem?_getD, List.getElem?_set_ne hj, ← List.getD_eq_getElem?_getD]
        have := h1 j
        omega
    · simp only [moreSt, hw, came]
      rw [SP_set _ p _ (by omega), h2 p]
      cases hp : p (moreIx xs os i)
      · simp
      · rw [if_pos ⟨hx, rfl⟩]; simp; omega
theorem SPm_set (l ls : List Int) (j : Nat) (hj : j < l.length) : ∀ n, dotE (l.set j (l.getD j 0 + 1)) ls n = dotE l ls n + (if j < n then ls.getD j 0 else 0)
  | 0 => by simp [dotE]
  | n + 1 => by
    have ih := SPm_set l ls j hj n
    simp only [dotE, ih]
    rcases Nat.lt_trichotomy j n with h | h | h
    · have e : (l.set j (l.getD j 0 + 1)).getD n 0 = l.getD n 0 := by
        rw [List.getD_eq_getElem?_getD, List.getElem?_set_ne (by omega), ← List.getD_eq_getElem?_getD]
      rw [e, if_pos h, if_pos (by omega)]
      omega
    · subst h
      have e : (l.set j (l.getD j 0 + 1)).getD j 0 = l.getD j 0 + 1 := by
        rw [List.getD_eq_getElem?_getD, List.getElem?_set_self hj]; rfl
      rw [e, if_neg (by omega), if_pos (by omega), Int.add_mul]
      omega
    · have e : (l.set j (l.getD j 0 + 1)).getD n 0 = l.getD n 0 := by
        rw [List.getD_eq_getElem?_getD, List.getElem?_set_ne (by omega), ← List.getD_eq_getElem?_getD]
      rw [e, if_neg (by omega), if_neg (by omega)]
      omega
theorem more_dot {xs os ls : List Int} {d a b : Int} (hc : cntB xs = true) (h : moreOk xs d os) (hab : ∀ j, j < xs.length → a ≤ ls.getD j 0 ∧ ls.getD j 0 ≤ b) : ∀ i : Nat, i ≤ d.toNat →
    dotE xs ls xs.length + i * a ≤ dotE (moreSt xs os i) ls xs.length ∧ dotE (moreSt xs os i) ls xs.length ≤ dotE xs ls xs.length + i * b
  | 0, _ => by simp [moreSt]
  | i + 1, hi => by
    have ih := more_dot hc h hab i (by omega)
    obtain ⟨h1, h2⟩ := more_is hc h i (by omega)
    have hd := h.2.1
    have hx := moreIx_lt h i
    have hl := more_len xs os i
    have hw : IntKind.i64.wrap ((moreSt xs os i).getD (moreIx xs os i) 0 + 1) = (moreSt xs os i).getD (moreIx xs os i) 0 + 1 := i64_w _ (by have := h1 (moreIx xs os i); omega)
    simp only [moreSt, hw]
    rw [SPm_set _ ls _ (by omega), if_pos hx]
    have := hab _ hx
    have e : ∀ c : Int, ((i + 1 : Nat) : Int) * c = i * c + c := fun c => by rw [Int.natCast_add, Int.add_mul]; simp
    rw [e a, e b]
    omega
def Ev (ys : List Int) (n : Nat) : Prop := ys.Pairwise (· < ·) ∧ ∀ y ∈ ys, 0 ≤ y ∧ y < n
theorem SP_more (f : Nat → Int) (p : Nat → Bool) (m : Nat) : ∀ k, (∀ i, m ≤ i → i < m + k → p i = false) → SP f p (m + k) = SP f p m
  | 0, _ => rfl
  | k + 1, h => by
    have := SP_more f p m k fun i a b => h i a (by omega)
    rw [← Nat.add_assoc]
    simp only [SP, this, h (m + k) (by omega) (by omega)]
    simp
theorem ev_snoc {l : List Int} {y : Int} {n : Nat} (h : Ev (l ++ [y]) n) : Ev l y.toNat ∧ 0 ≤ y ∧ y < n := by
  obtain ⟨h1, h2⟩ := h
  rw [List.pairwise_append] at h1
  have hy := h2 y (by simp)
  refine ⟨⟨h1.1, fun z hz => ?_⟩, hy⟩
  have a := h1.2.2 z hz y (by simp)
  have b := h2 z (by simp [hz])
  omega
def tlF (f : Nat → Int) (ys : List Int) : Int := ys.foldl (fun a y => a + f y.toNat) 0
theorem tlF_snoc (f : Nat → Int) (l : List Int) (y : Int) : tlF f (l ++ [y]) = tlF f l + f y.toNat := by simp [tlF]
theorem list_snoc {P : List Int → Prop} (h0 : P []) (h1 : ∀ l y, P l → P (l ++ [y])) (l : List Int) : P l := by
  rw [← List.reverse_reverse l]
  induction l.reverse with
  | nil => exact h0
  | cons a r ih => rw [List.reverse_cons]; exact h1 _ _ ih
theorem sum_event (f : Nat → Int) (ys : List Int) : ∀ n, Ev ys n → tlF f ys = SP f (isIn ys) n := by
  refine list_snoc (P := fun ys => ∀ n, Ev ys n → tlF f ys = SP f (isIn ys) n) (fun n _ => ?_) (fun l y ih n h => ?_) ys
  · have : isIn [] = fun _ => false := by funext i; simp [isIn]
    rw [this, SP_none]; rfl
  · obtain ⟨h1, h2, h3⟩ := ev_snoc h
    have e1 := ih _ h1
    rw [tlF_snoc, e1]
    have e2 : n = (y.toNat + 1) + (n - (y.toNat + 1)) := by omega
    rw [e2, SP_more f _ _ _ fun i a b => ?_]
    · simp only [SP]
      have : isIn (l ++ [y]) y.toNat = true := by simp [isIn]; omega
      rw [this]
      simp only [cond_true]
      congr 1
      refine SP_congr _ fun i hi => ⟨?_, fun _ => rfl⟩
      have : ¬ ((i : Int) = y) := by omega
      simp [isIn, this]
    · simp only [isIn, List.contains_eq_mem, List.mem_append, List.mem_singleton, decide_eq_false_iff_not]
      rintro (hm | hm)
      · have := (h1.2 _ hm).2; omega
      · omega
theorem ev_of {ys : List Int} {n : Nat} (hn : 1 ≤ n ∧ n ≤ 49) (h : evtB ys n = true) : Ev ys n := by
  unfold evtB at h
  simp only [Bool.not_eq_true', List.any_eq_false] at h
  have hb : ∀ i, i < ys.length → (0 ≤ ys.getD i 0 ∧ ys.getD i 0 < n) ∧ (0 < i → ys.getD (i - 1) 0 < ys.getD i 0) := fun i hi => by
    have := h i (List.mem_range.2 hi)
    unfold evtBad at this
    rw [i64_w _ (by omega)] at this
    simp only [Bool.or_eq_true, Bool.not_eq_true', Bool.and_eq_true, decide_eq_true_eq, not_or] at this
    obtain ⟨a, b⟩ := this
    have a : inB (ys.getD i 0) 0 ((n : Int) - 1) = true := by
      cases hh : inB (ys.getD i 0) 0 ((n : Int) - 1) with
      | true => rfl
      | false => exact absurd hh a
    have a := inB_iff.1 a
    refine ⟨by omega, fun hp => ?_⟩
    have := mt (fun c => ⟨hp, c⟩) b
    omega
  have hchain : ∀ j, j < ys.length → ∀ i, i < j → ys.getD i 0 < ys.getD j 0 := fun j => by
    induction j with
    | zero => intro _ i hi; omega
    | succ j ih =>
      intro hj i hi
      have h1 := (hb (j + 1) hj).2 (by omega)
      simp only [Nat.add_sub_cancel] at h1
      rcases Nat.lt_or_ge i j with hlt | hge
      · have := ih (by omega) i hlt; omega
      · rw [show i = j by omega]; exact h1
  have hg : ∀ i (hi : i < ys.length), ys.getD i 0 = ys[i] := fun i hi => by rw [List.getD_eq_getElem?_getD, List.getElem?_eq_getElem hi]; rfl
  refine ⟨List.pairwise_iff_getElem.2 fun i j hi hj hij => ?_, fun y hy => ?_⟩
  · have := hchain j hj i hij
    rw [hg i hi, hg j hj] at this; exact this
  · obtain ⟨i, hi, rfl⟩ := List.mem_iff_getElem.1 hy
    have := (hb i hi).1
    rw [hg i hi] at this; exact this
theorem of_ev {ys : List Int} {n : Nat} (hn : 1 ≤ n ∧ n ≤ 49) (h : Ev ys n) : evtB ys n = true := by
  obtain ⟨h1, h2⟩ := h
  have hg : ∀ i (hi : i < ys.length), ys.getD i 0 = ys[i] := fun i hi => by rw [List.getD_eq_getElem?_getD, List.getElem?_eq_getElem hi]; rfl
  unfold evtB
  simp only [Bool.not_eq_true', List.any_eq_false]
  intro i hi
  have hi := List.mem_range.1 hi
  have a := h2 _ (List.getElem_mem hi)
  unfold evtBad
  rw [i64_w _ (by omega), hg i hi]
  simp only [Bool.or_eq_true, Bool.not_eq_true', Bool.and_eq_true, decide_eq_true_eq, not_or]
  refine ⟨by rw [inB_iff.2 (by omega)]; simp, fun hp => ?_⟩
  have := List.pairwise_iff_getElem.1 h1 (i - 1) i (by omega) hi (by omega)
  rw [hg (i - 1) (by omega)] at hp
  omega
theorem evS_sum {xs ys : List Int} (hc : cntB xs = true) (h : ys.length ≤ 49) : evS xs ys = tlF (at0 xs) ys := by
  have key : ∀ l : List Int, l.length ≤ 49 → l.foldl (addC xs) 0 = tlF (at0 xs) l ∧ 0 ≤ tlF (at0 xs) l ∧ tlF (at0 xs) l ≤ (l.length : Int) * 1000000 := by
    refine list_snoc (fun _ => by simp [tlF]) fun l y ih hl => ?_
    rw [List.length_append, List.length_singleton] at hl
    obtain ⟨a, b, c⟩ := ih (by omega)
    have h0 := cnt_at hc y.toNat
    have : 0 ≤ at0 xs y.toNat ∧ at0 xs y.toNat ≤ 1000000 := h0
    rw [List.foldl_append, tlF_snoc, a, List.length_append, List.length_singleton]
    simp only [List.foldl_cons, List.foldl_nil, addC]
    refine ⟨i64_w _ (by omega), by omega, by omega⟩
  exact (key ys h).1
theorem ev_cnt {ys : List Int} {n : Nat} (h : Ev ys n) : (ys.length : Int) = SP (fun _ => 1) (isIn ys) n := by
  rw [← sum_event (fun _ => 1) ys n h]
  refine list_snoc (P := fun ys => (ys.length : Int) = tlF (fun _ => 1) ys) rfl (fun l y ih => ?_) ys
  rw [tlF_snoc, ← ih, List.length_append]; simp
theorem SP_full {p : Nat → Bool} : ∀ n : Nat, SP (fun _ => 1) p n = n → ∀ i, i < n → p i = true
  | 0, _, i, hi => by omega
  | n + 1, h, i, hi => by
    have hb := SP_in (f := fun _ => 1) (p := p) (B := 1) (fun _ => by omega) n
    simp only [SP] at h
    cases hp : p n
    · rw [hp] at h; simp at h; omega
    · rw [hp] at h
      rcases Nat.lt_or_ge i n with hlt | hge
      · exact SP_full n (by simp at h; omega) i hlt
      · rw [show i = n by omega]; exact hp
theorem SP_empty {p : Nat → Bool} : ∀ n : Nat, SP (fun _ => 1) p n = 0 → ∀ i, i < n → p i = false
  | 0, _, i, hi => by omega
  | n + 1, h, i, hi => by
    have hb := SP_in (f := fun _ => 1) (p := p) (B := 1) (fun _ => by omega) n
    simp only [SP] at h
    cases hp : p n
    · rw [hp] at h
      rcases Nat.lt_or_ge i n with hlt | hge
      · exact SP_empty n (by simp at h; omega) i hlt
      · rw [show i = n by omega]; exact hp
    · rw [hp] at h; simp at h; omega
theorem SP_one (n : Nat) : SP (fun _ => 1) (fun _ => true) n = n := by
  induction n with
  | zero => rfl
  | succ n ih => simp [SP, ih]
def others (p : Nat → Bool) : Nat → List Int
  | 0 => []
  | i + 1 => bif p i then others p i else others p i ++ [(i : Int)]
theorem others_ev (p : Nat → Bool) : ∀ n, Ev (others p n) n
  | 0 => ⟨List.Pairwise.nil, fun y hy => by cases hy⟩
  | n + 1 => by
    obtain ⟨h1, h2⟩ := others_ev p n
    simp only [others]
    cases p n
    · simp only [cond_false]
      refine ⟨List.pairwise_append.2 ⟨h1, by simp, fun a ha b hb => ?_⟩, fun y hy => ?_⟩
      · simp at hb; subst hb; exact (h2 a ha).2
      · rcases List.mem_append.1 hy with hy | hy
        · have := h2 y hy; omega
        · simp at hy; omega
    · exact ⟨h1, fun y hy => by have := h2 y hy; omega⟩
theorem others_in (p : Nat → Bool) : ∀ n i, i < n → isIn (others p n) i = !p i
  | 0, i, hi => by omega
  | n + 1, i, hi => by
    have ih := others_in p n
    have hno : ∀ m, m ≥ n → isIn (others p n) m = false := fun m hm => by
      simp only [isIn, List.contains_eq_mem, decide_eq_false_iff_not]
      intro h; have := ((others_ev p n).2 _ h).2; omega
    simp only [others]
    rcases Nat.lt_or_ge i n with hlt | hge
    · cases p n
      · simp only [cond_false]
        rw [← ih i hlt]
        have : ¬ ((i : Int) = (n : Int)) := by omega
        simp [isIn, this]
      · exact ih i hlt
    · have : i = n := by omega
      subst this
      cases hp : p i
      · simp [isIn]
      · simp only [cond_true]; rw [hno i (Nat.le_refl _)]; rfl
end Go.Proofs.Yteaadpgpihggeaa
