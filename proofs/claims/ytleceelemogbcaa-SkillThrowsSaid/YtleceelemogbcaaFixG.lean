/- The contracts of fixed.quotient (whole), tried, Scale. -/
import Derived.Test.YtleceelemogbcaaFixF
import Derived.RegionTactic
import Derived.ChangeAlike
import Derived.Outline
import Derived.Shelf.Abstract
namespace Go.Proofs.Ytleceelemogbcaa
open Go.RowKit NumA

/-- fixed.quotient. -/
theorem quotient_c (h l den : Int) (neg : Bool) (how : Int) (w : World) (hw : Way how) (hh : Word h) (hl : Word l) (hd : Word den) :
    Calls Try.prog 81 #[wideV h l, .int .u64 den, .bool neg, wayV how] w fun e w' => e = endFix (quot h l den neg how) ∧ Below w.heap.size w w' := by
  by_cases hlt : den ≤ h
  · refine (quotient_none h l den neg _ w hlt).mono fun e w' ⟨h1, h2⟩ => ⟨?_, h2⟩
    rw [h1, quot, if_pos hlt]; rfl
  · have hlt' : h < den := by omega
    have hrw := (quoI_word hh hl hd hlt').2.1
    by_cases hr : remI h l den = 0
    · refine (quotient_rest0 h l den neg _ w hh hl hd hlt' hr).mono fun e w' ⟨h1, h2⟩ => ⟨?_, h2⟩
      have hq : qUp h l den neg how = quoI h l den := by unfold qUp; rw [if_neg (by omega)]
      rw [h1, quot, if_neg hlt, hq]
    · refine (quotient_rest h l den neg how w hw hh hl hd hlt' (by omega) _ rfl).mono fun e w' ⟨h1, h2⟩ => ⟨?_, h2⟩
      have hq : qUp h l den neg how = if rndB how (halfI (remI h l den) den) neg = true then (quoI h l den + 1) % 18446744073709551616 else quoI h l den := by
        unfold qUp
        cases hb : rndB how (halfI (remI h l den) den) neg
        · rw [if_neg (by simp), if_neg (by simp)]
        · rw [if_pos ⟨by omega, rfl⟩, if_pos rfl]
      rw [h1, quot, if_neg hlt, hq]

theorem bcell {W w1 : World} {B : Nat} (hb : Below B W w1) : (∀ b o, b < B → w1.cell? ⟨b, o, none⟩ = W.cell? ⟨b, o, none⟩) ∧ (∀ b o, b < B → w1.frozen? ⟨b, o, none⟩ = W.frozen? ⟨b, o, none⟩) :=
  ⟨fun b o h => hb.cell (p := ⟨b, o, none⟩) h, fun b o h => hb.frozen (p := ⟨b, o, none⟩) h⟩

theorem cell_set {w : World} {a : Addr} {u : Value} (v : Value) (h : w.cell? a = some u) : (w.setCell a v).cell? a = some v := World.cell?_setCell_same w a v h
theorem cell_set_ne {w : World} {a b : Addr} (v : Value) (h : a ≠ b) : (w.setCell a v).cell? b = w.cell? b := World.cell?_setCell_other w a b v h

theorem assert_yes (c : Int) (w : World) : (Instr.typeAssert (.iface 141 (.agg #[.int .i64 c])) 20 141 true).run Try.prog w = .ok (.tuple #[.agg #[.int .i64 c], .bool true]) w := by kernel_rfl
theorem assert_nil (w : World) : (Instr.typeAssert .nilIface 20 141 true).run Try.prog w = .ok (.tuple #[.agg #[.int .i64 0], .bool false]) w := by kernel_rfl

/-- The deferred function of tried, behind a panic of package fixed. -/
theorem tried1_panic (b : Nat) (x y c : Int) (w : World) (hp : w.cell? ⟨b, 0, none⟩ = some (.int .i64 x)) (hq : w.cell? ⟨b + 1, 0, none⟩ = some (.int .i64 y)) (fp : w.frozen? ⟨b, 0, none⟩ = false) (fq : w.frozen? ⟨b + 1, 0, none⟩ = false) (hqb : b + 1 < w.heap.size) :
    CallsD Try.prog 86 #[.pointer (some ⟨b, 0, none⟩), .pointer (some ⟨b + 1, 0, none⟩)] (.panicking (fixPanic c)) w fun e u' w' =>
      e = .returned (.tuple #[]) ∧ u' = .panicking [{ v := .iface 141 (.agg #[.int .i64 c]), recovered := true }] ∧ w'.cell? ⟨b, 0, none⟩ = some (.int .i64 0) ∧ w'.cell? ⟨b + 1, 0, none⟩ = some (.int .i64 c) ∧ Below b w w' := by
  refine callsD_of_wpS Try.func86 rfl fun c₀ cs hu => ?_
  apply wpS_seq
  apply wpS_region
  simp [wpOpsS, go_sem, recoverD, hu, fixPanic, Try.ntmps86, Exit.thenS, Array.replicate, List.replicate]
  refine wpS_of_wp ?_
  clear hu
  have hta := fun w => assert_yes c w
  have ha : ∀ o, Below w.heap.size w (w.alloc o) := fun o => (Below.refl _ _).alloc (Nat.le_refl _) o
  have hp' : ∀ o, (w.alloc o).cell? ⟨b, 0, none⟩ = some (.int .i64 x) := fun o => ((ha o).cell (p := ⟨b, 0, none⟩) (by simp; omega)).trans hp
  have hq' : ∀ o, (w.alloc o).cell? ⟨b + 1, 0, none⟩ = some (.int .i64 y) := fun o => ((ha o).cell (p := ⟨b + 1, 0, none⟩) (by simp; omega)).trans hq
  have fp' : ∀ o, (w.alloc o).frozen? ⟨b, 0, none⟩ = false := fun o => ((ha o).frozen (p := ⟨b, 0, none⟩) (by simp; omega)).trans fp
  have fq' : ∀ o, (w.alloc o).frozen? ⟨b + 1, 0, none⟩ = false := fun o => ((ha o).frozen (p := ⟨b + 1, 0, none⟩) (by simp; omega)).trans fq
  clear ha
  go_wp2
  go_region
  all_goals
    go_big_unhide
    simp [bodyPostS, results, Try.results86, go_sem]
    refine ⟨cell_set _ (hp' _), cell_set (u := .int .i64 y) _ ((cell_set_ne _ (by simp)).trans (hq' _)), ?_⟩
    exact ((((Below.refl b w).alloc (by omega) _).setCell (p := ⟨b, 0, none⟩) (Nat.le_refl _) _).setCell (p := ⟨b + 1, 0, none⟩) (by simp) _).drew

/-- The deferred function of tried, behind a return. -/
theorem tried1_idle (b : Nat) (w : World) (hqb : b + 1 < w.heap.size) :
    CallsD Try.prog 86 #[.pointer (some ⟨b, 0, none⟩), .pointer (some ⟨b + 1, 0, none⟩)] .returning w fun e u' w' =>
      e = .returned (.tuple #[]) ∧ u' = .returning ∧ Below w.heap.size w w' := by
  refine callsD_of_wpS Try.func86 rfl fun c₀ cs hu => ?_
  apply wpS_seq
  apply wpS_region
  simp [wpOpsS, go_sem, recoverD, hu, Try.ntmps86, Exit.thenS, Array.replicate, List.replicate]
  refine wpS_of_wp ?_
  have hta := fun w => assert_nil w
  go_wp2
  all_goals
    simp [bodyPostS, results, Try.results86, go_sem]
    exact ⟨.returning, by cases c₀; simp_all, rfl, (Below.refl _ _).alloc (Nat.le_refl _) _⟩

/-- What tried gives back. -/
def valF : Except Int Int → Int | .ok v => v | .error _ => 0
def errF : Except Int Int → Int | .ok _ => 0 | .error e => e

/-- Two cells of two new blocks. -/
theorem two_new {w w1 : World} {c1 c2 : Array Value} {t1 t2 : TypeId} (hb : Below ((w.alloc (.cells c1 t1)).alloc (.cells c2 t2)).heap.size ((w.alloc (.cells c1 t1)).alloc (.cells c2 t2)) w1) :
    (∀ i, w1.cell? ⟨w.heap.size, i, none⟩ = c1[i]?) ∧ (∀ i, w1.cell? ⟨w.heap.size + 1, i, none⟩ = c2[i]?) ∧ (∀ i, w1.frozen? ⟨w.heap.size, i, none⟩ = false) ∧ (∀ i, w1.frozen? ⟨w.heap.size + 1, i, none⟩ = false) ∧ w.heap.size + 1 < w1.heap.size := by
  refine ⟨fun i => ?_, fun i => ?_, fun i => ?_, fun i => ?_, ?_⟩
  · rw [hb.cell (p := ⟨w.heap.size, i, none⟩) (by simp; omega)]; simp [go_sem]
  · rw [hb.cell (p := ⟨w.heap.size + 1, i, none⟩) (by simp)]; simp [go_sem]
  · rw [hb.frozen (p := ⟨w.heap.size, i, none⟩) (by simp; omega)]; simp [go_sem]
  · rw [hb.frozen (p := ⟨w.heap.size + 1, i, none⟩) (by simp)]; simp [go_sem]
  · have := hb.size; simp at this; omega

set_option maxHeartbeats 1000000 in
/-- fixed.tried: a function that ends as a reckoning does. -/
theorem tried_c (K : FuncId) (caps : Array Value) (he : ∀ args w, (callFunc K args).run Try.prog w = .ok (.enter K args) w) (r : Except Int Int) (w : World)
    (h : ∀ w1, Below w.heap.size w w1 → Calls Try.prog K caps w1 fun e w' => e = endFix r ∧ Below w1.heap.size w1 w') :
    Calls Try.prog 76 #[.func (.func K) #[] caps] w fun e w' => e = .returned (.tuple #[.int .i64 (valF r), .int .i64 (errF r)]) ∧ Below w.heap.size w w' := by
  have hmf : ∀ (fn : Fn) (first cap : Array Value) (w : World), (Instr.makeFunc fn first cap).run Try.prog w = .ok (.func fn first cap) w := fun _ _ _ _ => rfl
  have HH : Hid (∀ w1, Below w.heap.size w w1 → Calls Try.prog K caps w1 fun e w' => e = endFix r ∧ Below w1.heap.size w1 w') := h
  have hcall : ∀ w, (callFunc K caps).run Try.prog w = .ok (.enter K caps) w := fun w => he caps w
  clear h he
  cases r with
  | ok v =>
    go_enter_defers Try.func76, Try.ntmps76
    go_wp2_with (go_at_fn K; refine (HH.out _ (((Below.refl _ _).alloc (Nat.le_refl _) _).alloc (by simp) _)).mono ?_; rintro e w1 ⟨rfl, hb1⟩; simp only [endFix]; obtain ⟨hc1, hc2, hf1, hf2, hz⟩ := two_new hb1; have hd1 := hc1 0; have hd2 := hc2 0)
    refine leaves_cons (f := 86) (args := #[.pointer (some ⟨w.heap.size, 0, none⟩), .pointer (some ⟨w.heap.size + 1, 0, none⟩)]) (by simp) (by simp [go_sem]) ?_
    have hs : ((w1.setCell ⟨w.heap.size, 0, none⟩ (.int .i64 v)).setCell ⟨w.heap.size + 1, 0, none⟩ (.int .i64 0)).heap.size = w1.heap.size := by simp [World.setCell]
    refine (tried1_idle w.heap.size _ (by rw [hs]; exact hz)).mono ?_
    rintro e u' w2 ⟨rfl, rfl, hb2⟩
    have g1 : w2.cell? ⟨w.heap.size, 0, none⟩ = some (.int .i64 v) := by
      rw [hb2.cell (p := ⟨w.heap.size, 0, none⟩) (by rw [hs]; show w.heap.size < _; omega), cell_set_ne _ (by simp)]
      exact cell_set _ hd1
    have g2 : w2.cell? ⟨w.heap.size + 1, 0, none⟩ = some (.int .i64 0) := by
      rw [hb2.cell (p := ⟨w.heap.size + 1, 0, none⟩) (by rw [hs]; exact hz)]
      exact cell_set (u := .int .i64 0) _ ((cell_set_ne _ (by simp)).trans hd2)
    clear HH hcall hmf hc1 hc2 hf1 hf2 hd1 hd2
    simp [Leaves, settle, results, Try.results76, go_sem, g1, g2, valF, errF]
    refine ((((Below.refl w.heap.size w).alloc (Nat.le_refl _) _).alloc (by simp) _).trans (hb1.mono (by simp; omega))).trans ?_
    exact (((Below.refl w.heap.size w1).setCell (p := ⟨w.heap.size, 0, none⟩) (Nat.le_refl _) _).setCell (p := ⟨w.heap.size + 1, 0, none⟩) (by simp) _).trans (hb2.mono (by rw [hs]; omega))
  | error c =>
    go_enter_defers Try.func76, Try.ntmps76
    go_wp2_with (go_at_fn K; refine (HH.out _ (((Below.refl _ _).alloc (Nat.le_refl _) _).alloc (by simp) _)).mono ?_; rintro e w1 ⟨rfl, hb1⟩; simp only [endFix]; obtain ⟨hc1, hc2, hf1, hf2, hz⟩ := two_new hb1)
    refine leaves_cons (f := 86) (args := #[.pointer (some ⟨w.heap.size, 0, none⟩), .pointer (some ⟨w.heap.size + 1, 0, none⟩)]) (by simp) (by simp [go_sem]) ?_
    refine (tried1_panic w.heap.size 0 0 c _ (hc1 0) (hc2 0) (hf1 0) (hf2 0) hz).mono ?_
    rintro e u' w2 ⟨rfl, rfl, g1, g2, hb2⟩
    clear HH hcall hmf hc1 hc2 hf1 hf2
    simp [Leaves, settle, results, Try.results76, go_sem, g1, g2, valF, errF]
    exact ((((Below.refl w.heap.size w).alloc (Nat.le_refl _) _).alloc (by simp) _).trans (hb1.mono (by simp; omega))).trans hb2
end Go.Proofs.Ytleceelemogbcaa
