/- Parts of the proof, in build order. -/
import Derived.Test.YtfbiblmlcepdlaaM9
import Derived.Test.YtfbiblmlcepdlaaM8
namespace Go.Proofs.Ytfbiblmlcepdlaa
open Go.RowKit
abbrev PB := Bool × Bool × Bool × Bool × Bool × Bool × Bool × Bool × Bool × Bool × Bool × Bool × Bool × Bool × Bool × Bool × Bool × Bool × Bool × Bool × Bool × Bool × Bool × Bool × Bool × Bool × Bool × Bool × Bool × Bool × Bool × Bool × Bool × Bool × Bool × Unit
def pbL (x : PB) : List Bool := [x.1, x.2.1, x.2.2.1, x.2.2.2.1, x.2.2.2.2.1, x.2.2.2.2.2.1, x.2.2.2.2.2.2.1, x.2.2.2.2.2.2.2.1, x.2.2.2.2.2.2.2.2.1, x.2.2.2.2.2.2.2.2.2.1, x.2.2.2.2.2.2.2.2.2.2.1, x.2.2.2.2.2.2.2.2.2.2.2.1, x.2.2.2.2.2.2.2.2.2.2.2.2.1, x.2.2.2.2.2.2.2.2.2.2.2.2.2.1, x.2.2.2.2.2.2.2.2.2.2.2.2.2.2.1, x.2.2.2.2.2.2.2.2.2.2.2.2.2.2.2.1, x.2.2.2.2.2.2.2.2.2.2.2.2.2.2.2.2.1, x.2.2.2.2.2.2.2.2.2.2.2.2.2.2.2.2.2.1, x.2.2.2.2.2.2.2.2.2.2.2.2.2.2.2.2.2.2.1, x.2.2.2.2.2.2.2.2.2.2.2.2.2.2.2.2.2.2.2.1, x.2.2.2.2.2.2.2.2.2.2.2.2.2.2.2.2.2.2.2.2.1, x.2.2.2.2.2.2.2.2.2.2.2.2.2.2.2.2.2.2.2.2.2.1, x.2.2.2.2.2.2.2.2.2.2.2.2.2.2.2.2.2.2.2.2.2.2.1, x.2.2.2.2.2.2.2.2.2.2.2.2.2.2.2.2.2.2.2.2.2.2.2.1, x.2.2.2.2.2.2.2.2.2.2.2.2.2.2.2.2.2.2.2.2.2.2.2.2.1, x.2.2.2.2.2.2.2.2.2.2.2.2.2.2.2.2.2.2.2.2.2.2.2.2.2.1, x.2.2.2.2.2.2.2.2.2.2.2.2.2.2.2.2.2.2.2.2.2.2.2.2.2.2.1, x.2.2.2.2.2.2.2.2.2.2.2.2.2.2.2.2.2.2.2.2.2.2.2.2.2.2.2.1, x.2.2.2.2.2.2.2.2.2.2.2.2.2.2.2.2.2.2.2.2.2.2.2.2.2.2.2.2.1, x.2.2.2.2.2.2.2.2.2.2.2.2.2.2.2.2.2.2.2.2.2.2.2.2.2.2.2.2.2.1, x.2.2.2.2.2.2.2.2.2.2.2.2.2.2.2.2.2.2.2.2.2.2.2.2.2.2.2.2.2.2.1, x.2.2.2.2.2.2.2.2.2.2.2.2.2.2.2.2.2.2.2.2.2.2.2.2.2.2.2.2.2.2.2.1, x.2.2.2.2.2.2.2.2.2.2.2.2.2.2.2.2.2.2.2.2.2.2.2.2.2.2.2.2.2.2.2.2.1, x.2.2.2.2.2.2.2.2.2.2.2.2.2.2.2.2.2.2.2.2.2.2.2.2.2.2.2.2.2.2.2.2.2.1, x.2.2.2.2.2.2.2.2.2.2.2.2.2.2.2.2.2.2.2.2.2.2.2.2.2.2.2.2.2.2.2.2.2.2.1]
def pbM (f : Nat → Bool) : PB := (f 0, f 1, f 2, f 3, f 4, f 5, f 6, f 7, f 8, f 9, f 10, f 11, f 12, f 13, f 14, f 15, f 16, f 17, f 18, f 19, f 20, f 21, f 22, f 23, f 24, f 25, f 26, f 27, f 28, f 29, f 30, f 31, f 32, f 33, f 34, ())
def agB (f : Nat → Bool) : AVal := .agg [.bool (f 0), .bool (f 1), .bool (f 2), .bool (f 3), .bool (f 4), .bool (f 5), .bool (f 6), .bool (f 7), .bool (f 8), .bool (f 9), .bool (f 10), .bool (f 11), .bool (f 12), .bool (f 13), .bool (f 14), .bool (f 15), .bool (f 16), .bool (f 17), .bool (f 18), .bool (f 19), .bool (f 20), .bool (f 21), .bool (f 22), .bool (f 23), .bool (f 24), .bool (f 25), .bool (f 26), .bool (f 27), .bool (f 28), .bool (f 29), .bool (f 30), .bool (f 31), .bool (f 32), .bool (f 33), .bool (f 34)]
def pbG (x : PB) (q : Nat) : Bool := (pbL x).getD q false
def boG (xs : List AVal) (q : Nat) : Bool := match xs.getD q (.bool false) with | .bool b => b | _ => false
def boA (xs : List AVal) : Bool := (xs.length == 35) && xs.all fun v => match v with | .bool _ => true | _ => false
def chB {β : Type} : Nat → Nat → Int → (Nat → Option β) → Option β
  | 0, _, _, _ => none
  | m + 1, j, n, c => bif n == ((j : Nat) : Int) then c j else chB m (j + 1) n c
def rc1F {α : Type} (l : List SnI) (b : List RdI) (t d : Int) (x : Int × Int × Int × Unit) : Option (LRes (Int × Int × Int × Unit) α) :=
  bif decide (x.2.2.1 < (l.length : Int)) then
    if 0 ≤ x.2.2.1 ∧ x.2.2.1 < (l.length : Int) then
      bif (stE l x.2.2.1).1 != t then some (.cont (x.1, x.2.1, IntKind.i64.wrap (x.2.2.1 + 1), ()))
      else if 0 ≤ x.2.2.1 ∧ x.2.2.1 < (b.length : Int) then
        bif decide ((rdG b x.2.2.1).2.2.1 ≤ d) then
          if 0 ≤ x.2.2.1 ∧ x.2.2.1 < (b.length : Int) then
            bif decide ((rdG b x.2.2.1).2.1 ≤ d) then some (.cont (IntKind.i64.wrap (x.1 + 1), IntKind.i64.wrap (x.2.1 + 1), IntKind.i64.wrap (x.2.2.1 + 1), ()))
            else some (.cont (IntKind.i64.wrap (x.1 + 1), x.2.1, IntKind.i64.wrap (x.2.2.1 + 1), ()))
          else none
        else if 0 ≤ x.2.2.1 ∧ x.2.2.1 < (b.length : Int) then
            bif decide ((rdG b x.2.2.1).2.1 ≤ d) then some (.cont (x.1, IntKind.i64.wrap (x.2.1 + 1), IntKind.i64.wrap (x.2.2.1 + 1), ()))
            else some (.cont (x.1, x.2.1, IntKind.i64.wrap (x.2.2.1 + 1), ()))
          else none
      else none
    else none
  else some (.brk 0 (x.1, x.2.1, x.2.2.1, ()))
def rc2F {α : Type} (t can : Int) (x : Int × PB) : Option (LRes (Int × PB) α) :=
  bif decide (x.1 ≤ can) then
    if 0 ≤ t ∧ t < ((2 : Nat) : Int) then
      chB 2 0 t fun i => if 0 ≤ x.1 ∧ x.1 < ((17 : Nat) : Int) then chB 17 0 x.1 fun j => some (.cont (IntKind.i64.wrap (x.1 + 1), pbM fun q => bif q == 1 + 17 * i + j then true else pbG x.2 q)) else none
    else none
  else some (.brk 2 (x.1, pbM (pbG x.2)))
set_option maxRecDepth 100000 in
theorem rco_text (N n0 : Nat) (α : Type) (l : List SnI) (b : List RdI) (t d : Int) (c : Nat → Bool) (k : AOut → Option α) : evFn real tab ((twY fsR2 spM0).env real tab N (n0 + 12)) N Try.f57 α [.ro SnSh l, .ro RdSh b, .int .i64 t, .int .i64 d, agB c] k =
 afterL (iterL N (rc1F l b t d) (0, 0, 0, ())) fun id y => if id = 0 then afterL (iterL N (rc2F t y.2.1) (if 1 < y.1 then y.1 else 1, pbM c)) fun id2 z => if id2 = 2 then k (.ret
 (agB (pbG z.2))) else none else none := by kernel_rfl
theorem pbG_M (f : Nat → Bool) {q : Nat} (h : q < 35) : pbG (pbM f) q = f q := by
  have e : pbL (pbM f) = (List.range 35).map f := rfl
  unfold pbG
  rw [e, List.getD_eq_getElem?_getD, List.getElem?_map, List.getElem?_range h]
  rfl
theorem pbM_congr {f g : Nat → Bool} (h : ∀ q, q < 35 → f q = g q) : pbM f = pbM g := by
  unfold pbM
  simp only [Prod.mk.injEq, and_true]
  repeat' apply And.intro
  all_goals exact h _ (by decide)
theorem agB_congr {f g : Nat → Bool} (h : ∀ q, q < 35 → f q = g q) : agB f = agB g := by
  have e : ∀ f, agB f = .agg ((List.range 35).map fun q => .bool (f q)) := fun _ => rfl
  rw [e, e]
  congr 1
  exact List.map_congr_left fun q hq => by rw [h q (List.mem_range.1 hq)]
theorem boA_at {xs : List AVal} (h : boA xs = true) : AVal.agg xs = agB (boG xs) := by
  unfold boA at h
  rw [Bool.and_eq_true, beq_iff_eq, List.all_eq_true] at h
  have e : agB (boG xs) = .agg ((List.range 35).map fun q => .bool (boG xs q)) := rfl
  rw [e]
  congr 1
  refine List.ext_getElem (by rw [List.length_map, List.length_range]; exact h.1) fun i h1 h2 => ?_
  rw [List.getElem_map, List.getElem_range]
  unfold boG
  rw [List.getD_eq_getElem?_getD, List.getElem?_eq_getElem h1, Option.getD_some]
  have hx := h.2 _ (List.getElem_mem h1)
  cases hv : xs[i] with
  | bool b => rfl
  | _ => rw [hv] at hx; cases hx
theorem chB_at {β : Type} (c : Nat → Option β) {j : Nat} : ∀ (m j0 : Nat), j0 ≤ j → j < j0 + m → chB m j0 (j : Int) c = c j
  | 0, j0, h1, h2 => by omega
  | m + 1, j0, h1, h2 => by
    unfold chB
    by_cases e : j = j0
    · subst e
      rw [show ((j : Int) == ((j : Nat) : Int)) = true from beq_self_eq_true _]; rfl
    · rw [show ((j : Int) == ((j0 : Nat) : Int)) = false from beq_eq_false_iff_ne.2 (by omega)]
      exact chB_at c m (j0 + 1) (by omega) (by omega)
def cnI (t a n : Nat) (c : Nat → Bool) (q : Nat) : Bool := c q || (decide (1 + 17 * t + a ≤ q) && decide (q < 1 + 17 * t + a + n))
def cnA (s : List RdI) (t : Nat) (d : Int) (c : Nat → Bool) (q : Nat) : Bool := cnI t (max 1 (mustN s d)) (rndC s d) c q
theorem cnI_succ (t a n : Nat) (c : Nat → Bool) (q : Nat) : (bif q == 1 + 17 * t + (a + n) then true else cnI t a n c q) = cnI t a (n + 1) c q := by
  unfold cnI
  by_cases e : q = 1 + 17 * t + (a + n)
  · rw [show (q == 1 + 17 * t + (a + n)) = true from beq_iff_eq.2 e, decide_eq_true (show 1 + 17 * t + a ≤ q by omega), decide_eq_true (show q < 1 + 17 * t + a + (n + 1) by omega)]
    simp
  · rw [show (q == 1 + 17 * t + (a + n)) = false from beq_eq_false_iff_ne.2 e, cond_false]
    by_cases h : q < 1 + 17 * t + a + n
    · rw [decide_eq_true h, decide_eq_true (show q < 1 + 17 * t + a + (n + 1) by omega)]
    · rw [decide_eq_false h, decide_eq_false (show ¬ q < 1 + 17 * t + a + (n + 1) by omega)]
theorem rc2F_eq {α : Type} (t a n : Nat) (can : Int) (c : Nat → Bool) (ht : t < 2) (h16 : a + n ≤ 16) (hc : ((a + n : Nat) : Int) ≤ can) : rc2F (α := α) (t : Int) can (((a + n : Nat) : Int), pbM (cnI t a n c)) = some (.cont (((a + (n + 1) : Nat) : Int), pbM (cnI t a (n + 1) c))) := by
  unfold rc2F
  simp only []
  rw [decide_eq_true hc, cond_true, if_pos (show (0 : Int) ≤ (t : Int) ∧ (t : Int) < ((2 : Nat) : Int) by omega), chB_at _ 2 0 (by omega) (by omega), if_pos (by omega), chB_at _ 17 0 (by omega) (by omega), w64_small (by omega) (by omega)]
  have e1 : ((a + n : Nat) : Int) + 1 = ((a + (n + 1) : Nat) : Int) := by omega
  have e2 : pbM (fun q => bif q == 1 + 17 * t + (a + n) then true else pbG (pbM (cnI t a n c)) q) = pbM (cnI t a (n + 1) c) := pbM_congr fun q hq => by
    rw [pbG_M _ hq]
    exact cnI_succ t a n c q
  rw [e1, e2]
theorem rc2_run {α : Type} (s : List RdI) (t : Nat) (d : Int) (c : Nat → Bool) (ht : t < 2) (hs : s.length ≤ 16) (K : Nat → Int × PB → Option α) : ∃ y : Int, afterL (iterL 40 (rc2F (t : Int) (canN s d : Int)) (if 1 < (mustN s d : Int) then (mustN s d : Int) else 1, pbM c)) K = K 2 (y, pbM (cnA s t d c)) := by
  have hcan := canN_le s d
  have e0 : (if 1 < (mustN s d : Int) then (mustN s d : Int) else 1) = ((max 1 (mustN s d) + 0 : Nat) : Int) := by split <;> omega
  have e1 : pbM c = pbM (cnI t (max 1 (mustN s d)) 0 c) := pbM_congr fun q _ => by
    unfold cnI
    by_cases h : 1 + 17 * t + max 1 (mustN s d) ≤ q
    · rw [decide_eq_false (show ¬ q < 1 + 17 * t + max 1 (mustN s d) + 0 by omega), Bool.and_false, Bool.or_false]
    · rw [decide_eq_false h, Bool.false_and, Bool.or_false]
  rw [e0, e1]
  refine ⟨((max 1 (mustN s d) + rndC s d : Nat) : Int), count_loop (f := rc2F (t : Int) (canN s d : Int)) (fun i => (((max 1 (mustN s d) + i : Nat) : Int), pbM (cnI t (max 1 (mustN s d)) i c))) (rndC s d) (fun i hi => rc2F_eq t _ i _ c ht (by unfold rndC at hi; omega) (by unfold rndC at hi; omega)) (y := (((max 1 (mustN s d) + rndC s d : Nat) : Int), pbM (cnA s t d c))) (b := 2) ?_ (by unfold rndC; omega)⟩
  unfold rc2F
  simp only []
  rw [decide_eq_false (show ¬ ((max 1 (mustN s d) + rndC s d : Nat) : Int) ≤ (canN s d : Int) by unfold rndC; omega), cond_false]
  have e2 : pbM (pbG (pbM (cnI t (max 1 (mustN s d)) (rndC s d) c))) = pbM (cnA s t d c) := pbM_congr fun q hq => pbG_M _ hq
  rw [e2]
theorem rc1_run {α : Type} (l : List SnI) (b : List RdI) (t d : Int) (hb : l.length ≤ b.length) (hl : l.length ≤ 16) (K : Nat → Int × Int × Int × Unit → Option α) : afterL (iterL 40 (rc1F l b t d) (0, 0, 0, ())) K = K 0 ((mustN (tmL l b t) d : Int), (canN (tmL l b t) d : Int), (l.length : Int), ()) := by
  have hmx : l.length ≤ maxLen := by have : maxLen = 9223372036854775807 := rfl; omega
  refine count_loop (f := rc1F l b t d) (fun i => ((mustN (tmN l b t i) d : Int), (canN (tmN l b t i) d : Int), (i : Int), ())) l.length (fun i hi => ?_) (y := ((mustN (tmL l b t) d : Int), (canN (tmL l b t) d : Int), (l.length : Int), ())) (b := 0) ?_ (by omega)
  · have h0 := tmN_len l b t i
    have h1 := mustN_le (tmN l b t i) d
    have h2 := canN_le (tmN l b t i) d
    unfold rc1F stE rdG
    simp only [lt_len hi, cond_true, in_len hi, in_len (show i < b.length by omega), if_pos, and_self, Int.toNat_natCast, wrap_next hi hmx, tmN_succ]
    rw [wrap_next (n := i + 1) (by omega : mustN (tmN l b t i) d < i + 1) (by omega), wrap_next (n := i + 1) (by omega : canN (tmN l b t i) d < i + 1) (by omega)]
    show (bif (l.getD i snD).1 != t then _ else bif decide ((b.getD i rdD).hi ≤ d) then bif decide ((b.getD i rdD).lo ≤ d) then _ else _ else bif decide ((b.getD i rdD).lo ≤ d) then _ else _) = _
    rw [show ((l.getD i snD).1 != t) = !((l.getD i snD).1 == t) from rfl]
    cases (l.getD i snD).1 == t
    · rfl
    · simp only [cond_true, cond_false, Bool.not_true, mustN_add, canN_add]
      cases decide ((b.getD i rdD).hi ≤ d) <;> cases decide ((b.getD i rdD).lo ≤ d) <;> rfl
  · unfold rc1F; simp only [not_lt_len, cond_false]; rfl
noncomputable def rcoS : Fsp := fun _ args k => match args with
  | [.ro (.recd (.cons (.int .i64) (.cons (.int .i64) (.cons (.recd (.cons (.int .i64) (.cons (.int .i64) .nil))) .nil)))) l, .ro (.recd (.cons (.int .i64) (.cons (.int .i64) (.cons (.int .i64) .nil)))) b, .int .i64 t, .int .i64 d, .agg xs] => bif boA xs && (decide (l.length ≤ b.length) && (decide (l.length ≤ 16) && (decide (0 ≤ t) && decide (t < 2)))) then k (.ret (agB (cnA (tmL l b t) t.toNat d (boG xs)))) else none
  | _ => none
theorem rcoS_ok : FspOk Try.prog 57 rcoS := tower_Y fsR2_ok spM0_ok ⟨Try.func57, fun _ _ => by kernel_rfl⟩ (by intro α args k; unfold rcoS; split <;> simp only [cond_bind, Option.bind_some, Option.bind_none]) fun args out hSm hEq => by
  unfold rcoS at hEq
  split at hEq
  · rename_i l b t d xs
    cases hc : boA xs && (decide ((l : List SnI).length ≤ (b : List RdI).length) && (decide ((l : List SnI).length ≤ 16) && (decide (0 ≤ t) && decide (t < 2))))
    · rw [hc] at hEq; cases hEq
    · rw [hc] at hEq
      simp only [Bool.and_eq_true, decide_eq_true_eq] at hc
      obtain ⟨h1, h2, h3, h4, h5⟩ := hc
      refine ⟨40, 12, Eq.trans ?_ hEq⟩
      rw [boA_at h1]
      refine (rco_text 40 0 AOut l b t d (boG xs) some).trans ((rc1_run l b t d h2 h3 _).trans ?_)
      rw [if_pos rfl]
      have ht : t = (t.toNat : Int) := by omega
      have hT := tmN_len l b t l.length
      obtain ⟨y, hy⟩ := rc2_run (α := AOut) (tmL l b t) t.toNat d (boG xs) (by omega) (Nat.le_trans hT h3) (fun id2 z => if id2 = 2 then some (.ret (agB (pbG z.2))) else none)
      rw [← ht] at hy
      refine hy.trans ?_
      rw [if_pos rfl, cond_true]
      exact congrArg some (congrArg AOut.ret (agB_congr fun q hq => pbG_M _ hq))
  · cases hEq
end Go.Proofs.Ytfbiblmlcepdlaa

namespace Go.Proofs.Ytfbiblmlcepdlaa
open Go.RowKit
noncomputable def fsR3 : FuncId → Option Fsp := fun g =>
  if g = 56 then some rleS else
  if g = 57 then some rcoS else
  fsR2 g
theorem fsR3_ok : FsOk fsR3 :=
  fs_cons rleS_ok <|
  fs_cons rcoS_ok <|
  fsR2_ok
def pbA (x : PB) : List AVal := [.bool x.1, .bool x.2.1, .bool x.2.2.1, .bool x.2.2.2.1, .bool x.2.2.2.2.1, .bool x.2.2.2.2.2.1, .bool x.2.2.2.2.2.2.1, .bool x.2.2.2.2.2.2.2.1, .bool x.2.2.2.2.2.2.2.2.1, .bool x.2.2.2.2.2.2.2.2.2.1, .bool x.2.2.2.2.2.2.2.2.2.2.1, .bool x.2.2.2.2.2.2.2.2.2.2.2.1, .bool x.2.2.2.2.2.2.2.2.2.2.2.2.1, .bool x.2.2.2.2.2.2.2.2.2.2.2.2.2.1, .bool x.2.2.2.2.2.2.2.2.2.2.2.2.2.2.1, .bool x.2.2.2.2.2.2.2.2.2.2.2.2.2.2.2.1, .bool x.2.2.2.2.2.2.2.2.2.2.2.2.2.2.2.2.1, .bool x.2.2.2.2.2.2.2.2.2.2.2.2.2.2.2.2.2.1, .bool x.2.2.2.2.2.2.2.2.2.2.2.2.2.2.2.2.2.2.1, .bool x.2.2.2.2.2.2.2.2.2.2.2.2.2.2.2.2.2.2.2.1, .bool x.2.2.2.2.2.2.2.2.2.2.2.2.2.2.2.2.2.2.2.2.1, .bool x.2.2.2.2.2.2.2.2.2.2.2.2.2.2.2.2.2.2.2.2.2.1, .bool x.2.2.2.2.2.2.2.2.2.2.2.2.2.2.2.2.2.2.2.2.2.2.1, .bool x.2.2.2.2.2.2.2.2.2.2.2.2.2.2.2.2.2.2.2.2.2.2.2.1, .bool x.2.2.2.2.2.2.2.2.2.2.2.2.2.2.2.2.2.2.2.2.2.2.2.2.1, .bool x.2.2.2.2.2.2.2.2.2.2.2.2.2.2.2.2.2.2.2.2.2.2.2.2.2.1, .bool x.2.2.2.2.2.2.2.2.2.2.2.2.2.2.2.2.2.2.2.2.2.2.2.2.2.2.1, .bool x.2.2.2.2.2.2.2.2.2.2.2.2.2.2.2.2.2.2.2.2.2.2.2.2.2.2.2.1, .bool x.2.2.2.2.2.2.2.2.2.2.2.2.2.2.2.2.2.2.2.2.2.2.2.2.2.2.2.2.1, .bool x.2.2.2.2.2.2.2.2.2.2.2.2.2.2.2.2.2.2.2.2.2.2.2.2.2.2.2.2.2.1, .bool x.2.2.2.2.2.2.2.2.2.2.2.2.2.2.2.2.2.2.2.2.2.2.2.2.2.2.2.2.2.2.1, .bool x.2.2.2.2.2.2.2.2.2.2.2.2.2.2.2.2.2.2.2.2.2.2.2.2.2.2.2.2.2.2.2.1, .bool x.2.2.2.2.2.2.2.2.2.2.2.2.2.2.2.2.2.2.2.2.2.2.2.2.2.2.2.2.2.2.2.2.1, .bool x.2.2.2.2.2.2.2.2.2.2.2.2.2.2.2.2.2.2.2.2.2.2.2.2.2.2.2.2.2.2.2.2.2.1, .bool x.2.2.2.2.2.2.2.2.2.2.2.2.2.2.2.2.2.2.2.2.2.2.2.2.2.2.2.2.2.2.2.2.2.2.1]
def coK {β : Type} (l : List SnI) (b : List RdI) (t d : Int) (x : PB) (K : PB → Option β) : Option β :=
  bif boA (pbA x) && (decide (l.length ≤ b.length) && (decide (l.length ≤ 16) && (decide (0 ≤ t) && decide (t < 2)))) then K (pbM (cnA (tmL l b t) t.toNat d (boG (pbA x)))) else none
def tiF {α : Type} (l : List SnI) (b : List RdI) (t : Int) (o : List RdI) (x : Int × PB) : Option (LRes (Int × PB) α) :=
  bif decide (x.1 < (l.length : Int)) then
    if 0 ≤ x.1 ∧ x.1 < (l.length : Int) then
      bif (stE l x.1).1 != t then some (.cont (IntKind.i64.wrap (x.1 + 1), x.2))
      else if 0 ≤ x.1 ∧ x.1 < (b.length : Int) then
        let J := fun (y : PB) => if 0 ≤ x.1 ∧ x.1 < (b.length : Int) then
            let D : PB → Option (LRes (Int × PB) α) := fun z => some (.cont (IntKind.i64.wrap (x.1 + 1), z))
            bif decide ((rdG b x.1).2.2.1 ≥ IntKind.i64.wrap (minLo o - 1)) then bif decide ((rdG b x.1).2.2.1 < minHi o) then coK l b t (rdG b x.1).2.2.1 y D else D y else D y
          else none
        bif decide ((rdG b x.1).2.1 ≥ IntKind.i64.wrap (minLo o - 1)) then bif decide ((rdG b x.1).2.1 < minHi o) then coK l b t (rdG b x.1).2.1 x.2 J else J x.2 else J x.2
      else none
    else none
  else some (.brk 2 (x.1, x.2))
def trF {α : Type} (N : Nat) (l : List SnI) (b : List RdI) (x : Int × PB) : Option (LRes (Int × PB) α) :=
  bif decide (x.1 < 2) then
    let D : PB → Option (LRes (Int × PB) α) := fun z => some (.cont (IntKind.i64.wrap (x.1 + 1), z))
    let Y := fun (o : List RdI) (y : PB) => bif decide (minLo o > minHi o) then D y else coK l b x.1 (IntKind.i64.wrap (minLo o - 1)) y fun z => afterL (iterL N (tiF l b x.1 o) (0, z)) fun id w => if id = 2 then D w.2 else none
    let X := fun (o : List RdI) => bif awB o then coK l b x.1 129368064 x.2 (Y o) else Y o x.2
    bif x.1 == 1 then X (tmL l b 0) else X (tmL l b 1)
  else some (.brk 0 (x.1, x.2))
def tlK {α : Type} (N : Nat) (l : List SnI) (b : List RdI) (n : Bool) (k : AOut → Option α) : Option α :=
  afterL (iterL N (trF N l b) (0, pbM fun q => bif q == 0 then n else false)) fun id y => if id = 0 then k (.ret (agB (pbG y.2))) else none
def tieC (p q : List RdI) : Bool := decide ((if minLo p < minLo q then minLo q else minLo p) ≤ if minHi q < minHi p then minHi q else minHi p)
def rtX {α : Type} (N : Nat) (l : List SnI) (b : List RdI) (k : AOut → Option α) : Option α :=
  bif decide (l.length ≤ b.length) && decide (l.length ≤ 16) then bif decide (l.length ≤ b.length) && decide (l.length ≤ 16) then
    bif awB (tmL l b 0) then bif awB (tmL l b 1) then tlK N l b true k else tlK N l b (tieC (tmL l b 0) (tmL l b 1)) k else tlK N l b (tieC (tmL l b 0) (tmL l b 1)) k
  else none else none
def takeC : Nat → Code → Code
  | 0, _ => .skip
  | n + 1, .seq a b => .seq a (takeC n b)
  | _ + 1, c => c
def dropC : Nat → Code → Code
  | 0, c => c
  | n + 1, .seq _ b => dropC n b
  | _ + 1, _ => .skip
theorem ev_cut (T : Tab) (env : Env) (N : Nat) {α : Type} : ∀ (n : Nat) (c : Code) (s : AS) (k : AExit → AS → Option α), ev real T env N c s k = ev real T env N (takeC n c) s fun x s' => match x with
    | .normal => ev real T env N (dropC n c) s' k
    | x => k x s'
  | 0, c, s, k => rfl
  | n + 1, c, s, k => by
    cases c with
    | seq a b =>
      show ev real T env N a s _ = ev real T env N a s _
      congr 1
      funext x s'
      cases x with
      | normal => exact ev_cut T env N n b s' k
      | _ => rfl
    | _ =>
      show ev real T env N _ s k = ev real T env N _ s _
      congr 1
      funext x s'
      cases x <;> rfl
def codeOf (fn : Func) : Code := match fn.body with | some c => c | none => .skip
def fnK {α : Type} (fn : Func) (k : AOut → Option α) (x : AExit) (s : AS) : Option α :=
  let K : AExit → AVal → List ABlk → Option α := fun x v h => match x with
    | .pan v => (match peek2 h v with
      | some u => k (.pan u)
      | none => none)
    | _ => (match peek2 h v with
      | some u => k (.ret u)
      | none => none)
  match x with
      | .pan v => K (.pan v) .any s.heap
      | .exit _ => none
      | _ =>
        match resOf tab s fn.results.toList with
        | none => none
        | some vs => K .normal (match vs with | [v] => v | vs => .tup vs) s.heap
theorem evFn_code (env : Env) (N : Nat) (fn : Func) {c : Code} (h : fn.body = some c) (α : Type) (args : List AVal) (k : AOut → Option α) : evFn real tab env N fn α args k = ev real tab env N (codeOf fn) { tmps := args ++ List.replicate (fn.ntmps - args.length) .undef, heap := [] } (fnK fn k) := by
  unfold evFn evBody codeOf
  rw [h]
  rfl
def rgA (p : List RdI) : AVal := .agg [.int .i64 (minLo p), .int .i64 (minHi p), .bool (awB p)]
def rtT (l : List SnI) (b : List RdI) (v34 v35 v36 v37 v38 v39 v40 : AVal) : List AVal :=
  let p := tmL l b 0
  let q := tmL l b 1
  let mx := if minLo p < minLo q then minLo q else minLo p
  let mn := if minHi q < minHi p then minHi q else minHi p
  [.ro SnSh l, .ro RdSh b, .undef, .undef, .op 0 0, .op 1 0, .op 2 0, .op 3 0, .bool (decide (mx ≤ mn)), .undef, .undef, .undef, .undef, .undef, agB (fun _ => false), .ro SnSh l, .ro RdSh b, rgA p, .ro SnSh l, .ro RdSh b, rgA q, .op 2 0, .int .i64 (minLo p), .op 3 0, .int .i64 (minLo q), .int .i64 mx, .op 2 1, .int .i64 (minHi p), .op 3 1, .int .i64 (minHi q), .int .i64 mn, .bool (decide (mx ≤ mn)), .op 2 2, .bool (awB p), v34, v35, v36, v37, v38, v39, v40, .op 1 0] ++ List.replicate 87 .undef
def rtH (l : List SnI) (b : List RdI) (n : Bool) : List ABlk := [.box true (agB fun _ => false).cells, .box true (agB fun q => bif q == 0 then n else false).cells, .box true (rgA (tmL l b 0)).cells, .box true (rgA (tmL l b 1)).cells]
def rtHd {α : Type} (l : List SnI) (b : List RdI) (K : AExit → AS → Option α) : Option α :=
  let tc := tieC (tmL l b 0) (tmL l b 1)
  bif decide (l.length ≤ b.length) && decide (l.length ≤ 16) then bif decide (l.length ≤ b.length) && decide (l.length ≤ 16) then
    bif awB (tmL l b 0) then bif awB (tmL l b 1) then K .normal ⟨rtT l b (.bool true) (.op 3 2) (.bool (awB (tmL l b 1))) (.bool (awB (tmL l b 1))) (.bool true) .undef (.bool true), rtH l b true⟩
      else K .normal ⟨rtT l b (.bool true) (.op 3 2) (.bool (awB (tmL l b 1))) (.bool (awB (tmL l b 1))) (.bool false) (.bool tc) (.bool tc), rtH l b tc⟩
    else K .normal ⟨rtT l b (.bool false) .undef .undef (.bool false) (.bool false) (.bool tc) (.bool tc), rtH l b tc⟩
  else none else none
set_option maxRecDepth 100000 in
theorem rta_head (N n0 : Nat) (α : Type) (l : List SnI) (b : List RdI) (K : AExit → AS → Option α) : ev real tab ((twY fsR3 spM0).env real tab N (n0 + 12)) N (takeC 6 (codeOf Try.f28)) ⟨[.ro SnSh l, .ro RdSh b] ++ List.replicate 127 .undef, []⟩ K = rtHd l b K := by kernel_rfl
end Go.Proofs.Ytfbiblmlcepdlaa

namespace Go.Proofs.Ytfbiblmlcepdlaa
open Go.RowKit
set_option maxRecDepth 100000 in
theorem rta_F (N n0 : Nat) (α : Type) (l : List SnI) (b : List RdI) (n : Bool) (t : Bool) (k : AOut → Option α) : ev real tab ((twY fsR3 spM0).env real tab N (n0 + 12)) N (dropC 6 (codeOf Try.f28)) ⟨rtT l b (.bool false) .undef .undef (.bool false) (.bool false) (.bool t) (.bool t), rtH l b n⟩ (fnK Try.f28 k) = tlK N l b n k := by kernel_rfl
set_option maxRecDepth 100000 in
theorem rta_TF (N n0 : Nat) (α : Type) (l : List SnI) (b : List RdI) (n : Bool) (o t : Bool) (k : AOut → Option α) : ev real tab ((twY fsR3 spM0).env real tab N (n0 + 12)) N (dropC 6 (codeOf Try.f28)) ⟨rtT l b (.bool true) (.op 3 2) (.bool o) (.bool o) (.bool false) (.bool t) (.bool t), rtH l b n⟩ (fnK Try.f28 k) = tlK N l b n k := by kernel_rfl
set_option maxRecDepth 100000 in
theorem rta_TT (N n0 : Nat) (α : Type) (l : List SnI) (b : List RdI) (n : Bool) (o : Bool) (k : AOut → Option α) : ev real tab ((twY fsR3 spM0).env real tab N (n0 + 12)) N (dropC 6 (codeOf Try.f28)) ⟨rtT l b (.bool true) (.op 3 2) (.bool o) (.bool o) (.bool true) .undef (.bool true), rtH l b n⟩ (fnK Try.f28 k) = tlK N l b n k := by kernel_rfl
theorem rta_all (N n0 : Nat) (α : Type) (l : List SnI) (b : List RdI) (k : AOut → Option α) : evFn real tab ((twY fsR3 spM0).env real tab N (n0 + 12)) N Try.f28 α [.ro SnSh l, .ro RdSh b] k = rtX N l b k := by
  rw [evFn_code _ _ _ (show Try.f28.body = some (codeOf Try.f28) by kernel_rfl), ev_cut _ _ _ 6]
  have e0 : (⟨[.ro SnSh l, .ro RdSh b] ++ List.replicate (Try.f28.ntmps - [AVal.ro SnSh l, AVal.ro RdSh b].length) .undef, []⟩ : AS) = ⟨[.ro SnSh l, .ro RdSh b] ++ List.replicate 127 .undef, []⟩ := by kernel_rfl
  rw [e0, rta_head]
  unfold rtHd rtX
  simp only [rta_F, rta_TF, rta_TT]
end Go.Proofs.Ytfbiblmlcepdlaa

namespace Go.Proofs.Ytfbiblmlcepdlaa
open Go.RowKit
theorem boA_pb (x : PB) : boA (pbA x) = true := rfl
theorem boG_pb (x : PB) (q : Nat) : boG (pbA x) q = pbG x q := by
  have e : pbA x = (pbL x).map AVal.bool := rfl
  unfold boG pbG
  rw [e, List.getD_eq_getElem?_getD, List.getD_eq_getElem?_getD, List.getElem?_map]
  cases (pbL x)[q]? <;> rfl
def inA (s : List RdI) (t : Nat) (d : Int) (q : Nat) : Bool := decide (1 + 17 * t + max 1 (mustN s d) ≤ q) && decide (q < 1 + 17 * t + max 1 (mustN s d) + rndC s d)
def cnF (s : List RdI) (t : Nat) (L : List Int) (c : Nat → Bool) (q : Nat) : Bool := c q || L.any fun d => inA s t d q
theorem cnF_nil (s : List RdI) (t : Nat) (c : Nat → Bool) : cnF s t [] c = c := by
  funext q
  exact Bool.or_false _
theorem cnF_add (s : List RdI) (t : Nat) (L : List Int) (d : Int) (c : Nat → Bool) : cnA s t d (cnF s t L c) = cnF s t (L ++ [d]) c := by
  funext q
  unfold cnF
  rw [List.any_append]
  show ((c q || L.any fun d => inA s t d q) || inA s t d q) = _
  rw [Bool.or_assoc]
  congr 1
  simp
theorem coK_eq {β : Type} (l : List SnI) (b : List RdI) {t : Nat} (ht : t < 2) (hb : l.length ≤ b.length) (hl : l.length ≤ 16) (d : Int) (L : List Int) (c : Nat → Bool) (K : PB → Option β) : coK l b (t : Int) d (pbM (cnF (tmL l b t) t L c)) K = K (pbM (cnF (tmL l b t) t (L ++ [d]) c)) := by
  unfold coK
  rw [boA_pb, decide_eq_true hb, decide_eq_true hl, decide_eq_true (show (0 : Int) ≤ (t : Int) by omega), decide_eq_true (show (t : Int) < 2 by omega)]
  rw [show (true && (true && (true && (true && true)))) = true from rfl, cond_true, Int.toNat_natCast, ← cnF_add]
  have e : pbM (cnA (tmL l b t) t d (boG (pbA (pbM (cnF (tmL l b t) t L c))))) = pbM (cnA (tmL l b t) t d (cnF (tmL l b t) t L c)) := pbM_congr fun q hq => by
    unfold cnA cnI
    rw [boG_pb, pbG_M _ hq]
  rw [e]
def liP (m M d : Int) : Bool := decide (d ≥ m) && decide (d < M)
def limT (o : List RdI) (r : RdI) : List Int := [r.lo].filter (liP (minLo o - 1) (minHi o)) ++ [r.hi].filter (liP (minLo o - 1) (minHi o))
theorem co_if {β : Type} (l : List SnI) (b : List RdI) {t : Nat} (ht : t < 2) (hb : l.length ≤ b.length) (hl : l.length ≤ 16) (m M d : Int) (L : List Int) (c : Nat → Bool) (K : PB → Option β) : (bif decide (d ≥ m) then bif decide (d < M) then coK l b (t : Int) d (pbM (cnF (tmL l b t) t L c)) K else K (pbM (cnF (tmL l b t) t L c)) else K (pbM (cnF (tmL l b t) t L c))) = K (pbM (cnF (tmL l b t) t (L ++ [d].filter (liP m M)) c)) := by
  have e : [d].filter (liP m M) = bif decide (d ≥ m) then bif decide (d < M) then [d] else [] else [] := by
    rw [List.filter_cons]
    unfold liP
    cases decide (d ≥ m) <;> cases decide (d < M) <;> rfl
  rw [e]
  cases decide (d ≥ m)
  · rw [cond_false, cond_false, List.append_nil]
  · cases decide (d < M)
    · rw [cond_true, cond_true, cond_false, cond_false, List.append_nil]
    · exact coK_eq l b ht hb hl d L c K
theorem minLo_le (l : List RdI) : minLo l ≤ 129368065 := by
  have h : ∀ (l : List RdI) (a : Int), l.foldl (fun a r => min a r.lo) a ≤ a := by
    intro l
    induction l with
    | nil => exact fun a => Int.le_refl a
    | cons r l ih => exact fun a => Int.le_trans (ih _) (Int.min_le_left _ _)
  exact h l _
theorem tiF_eq {α : Type} (l : List SnI) (b o : List RdI) {t : Nat} (ht : t < 2) (hb : l.length ≤ b.length) (hl : l.length ≤ 16) (ho : 0 ≤ minLo o) (L : List Int) (c : Nat → Bool) {i : Nat} (hi : i < l.length) :
    tiF (α := α) l b (t : Int) o ((i : Int), pbM (cnF (tmL l b t) t (L ++ (tmN l b t i).flatMap (limT o)) c)) = some (.cont (((i + 1 : Nat) : Int), pbM (cnF (tmL l b t) t (L ++ (tmN l b t (i + 1)).flatMap (limT o)) c))) := by
  have hmx : l.length ≤ maxLen := by have : maxLen = 9223372036854775807 := rfl; omega
  have h1 := minLo_le o
  unfold tiF stE rdG
  simp only [lt_len hi, cond_true, in_len hi, in_len (show i < b.length by omega), if_pos, and_self, Int.toNat_natCast, wrap_next hi hmx, tmN_succ, w64_small (show (-1 : Int) ≤ minLo o - 1 by omega) (by omega)]
  show (bif !((l.getD i snD).1 == (t : Int)) then _ else bif decide ((b.getD i rdD).lo ≥ minLo o - 1) then bif decide ((b.getD i rdD).lo < minHi o) then _ else _ else _) = _
  cases (l.getD i snD).1 == (t : Int)
  · rfl
  · rw [Bool.not_true, cond_false, cond_true, List.flatMap_append]
    refine (co_if l b ht hb hl (minLo o - 1) (minHi o) (b.getD i rdD).lo (L ++ (tmN l b t i).flatMap (limT o)) c _).trans ?_
    refine (co_if l b ht hb hl (minLo o - 1) (minHi o) (b.getD i rdD).hi _ c _).trans ?_
    rw [show [b.getD i rdD].flatMap (limT o) = limT o (b.getD i rdD) by simp [List.flatMap_cons]]
    unfold limT
    rw [List.append_assoc, List.append_assoc]
def tabL (s o : List RdI) : List Int := (bif awB o then [129368064] else []) ++ bif decide (minLo o > minHi o) then [] else (minLo o - 1) :: s.flatMap (limT o)
theorem tiF_run {α : Type} {N : Nat} (hN : 20 ≤ N) (l : List SnI) (b o : List RdI) {t : Nat} (ht : t < 2) (hb : l.length ≤ b.length) (hl : l.length ≤ 16) (ho : 0 ≤ minLo o) (L : List Int) (c : Nat → Bool) (K : Nat → Int × PB → Option α) : afterL (iterL N (tiF l b (t : Int) o) (0, pbM (cnF (tmL l b t) t L c))) K = K 2 ((l.length : Int), pbM (cnF (tmL l b t) t (L ++ (tmL l b t).flatMap (limT o)) c)) := by
  have run := count_loop (f := tiF l b (t : Int) o) (K := K) (fun i => ((i : Int), pbM (cnF (tmL l b t) t (L ++ (tmN l b t i).flatMap (limT o)) c))) l.length (fun i hi => tiF_eq l b o ht hb hl ho L c hi) (y := ((l.length : Int), pbM (cnF (tmL l b t) t (L ++ (tmL l b t).flatMap (limT o)) c))) (b := 2) (by
    unfold tiF
    simp only [not_lt_len, cond_false]
    rfl) (N := N) (by omega)
  have e0 : L ++ (tmN l b t 0).flatMap (limT o) = L := List.append_nil L
  exact Eq.trans (congrArg (fun L' => afterL (iterL N (tiF l b (t : Int) o) (0, pbM (cnF (tmL l b t) t L' c))) K) e0.symm) run
theorem tr_rest {α : Type} {N : Nat} (hN : 20 ≤ N) (l : List SnI) (b o : List RdI) {t : Nat} (ht : t < 2) (hb : l.length ≤ b.length) (hl : l.length ≤ 16) (ho : 0 ≤ minLo o) (L : List Int) (c : Nat → Bool) (D : PB → Option (LRes (Int × PB) α)) :
    (bif decide (minLo o > minHi o) then D (pbM (cnF (tmL l b t) t L c)) else coK l b (t : Int) (IntKind.i64.wrap (minLo o - 1)) (pbM (cnF (tmL l b t) t L c)) fun z => afterL (iterL N (tiF l b (t : Int) o) (0, z)) fun id w => if id = 2 then D w.2 else none) = D (pbM (cnF (tmL l b t) t (L ++ bif decide (minLo o > minHi o) then [] else (minLo o - 1) :: (tmL l b t).flatMap (limT o)) c)) := by
  have h1 := minLo_le o
  cases decide (minLo o > minHi o)
  · rw [cond_false, cond_false, w64_small (by omega) (by omega), coK_eq l b ht hb hl, tiF_run hN l b o ht hb hl ho, if_pos rfl, List.append_assoc]
    rfl
  · rw [cond_true, cond_true, List.append_nil]
theorem trF_eq {α : Type} {N : Nat} (hN : 20 ≤ N) (l : List SnI) (b : List RdI) {t : Nat} (ht : t < 2) (hb : l.length ≤ b.length) (hl : l.length ≤ 16) (h0 : 0 ≤ minLo (tmL l b 0)) (h1 : 0 ≤ minLo (tmL l b 1)) (c : Nat → Bool) :
    trF (α := α) N l b ((t : Int), pbM c) = some (.cont (((t + 1 : Nat) : Int), pbM (cnF (tmL l b t) t (tabL (tmL l b t) (tmL l b ((1 - t : Nat) : Int))) c))) := by
  have ho : 0 ≤ minLo (tmL l b ((1 - t : Nat) : Int)) := by
    rcases (show t = 0 ∨ t = 1 by omega) with rfl | rfl
    · exact h1
    · exact h0
  have e : trF (α := α) N l b ((t : Int), pbM c) = (
      let D : PB → Option (LRes (Int × PB) α) := fun z => some (.cont (((t + 1 : Nat) : Int), z))
      let o := tmL l b ((1 - t : Nat) : Int)
      let Y := fun (y : PB) => bif decide (minLo o > minHi o) then D y else coK l b t (IntKind.i64.wrap (minLo o - 1)) y fun z => afterL (iterL N (tiF l b t o) (0, z)) fun id w => if id = 2 then D w.2 else none
      bif awB o then coK l b t 129368064 (pbM c) Y else Y (pbM c)) := by
    unfold trF
    rcases (show t = 0 ∨ t = 1 by omega) with rfl | rfl
    · rfl
    · rfl
  rw [e]
  simp only []
  unfold tabL
  have e0 : pbM c = pbM (cnF (tmL l b t) t [] c) := by rw [cnF_nil]
  rw [e0]
  cases awB (tmL l b ((1 - t : Nat) : Int))
  · rw [cond_false]
    refine (tr_rest hN l b _ ht hb hl ho [] c fun z => some (.cont (((t + 1 : Nat) : Int), z))).trans ?_
    rfl
  · rw [cond_true, coK_eq l b ht hb hl]
    refine (tr_rest hN l b _ ht hb hl ho ([] ++ [129368064]) c fun z => some (.cont (((t + 1 : Nat) : Int), z))).trans ?_
    rfl
def tabC (p o : List RdI) : Nat → Bool := cnF o 1 (tabL o p) (cnF p 0 (tabL p o) fun q => bif q == 0 then tieB p o else false)
theorem tlK_eq {α : Type} {N : Nat} (hN : 20 ≤ N) (l : List SnI) (b : List RdI) (hb : l.length ≤ b.length) (hl : l.length ≤ 16) (h0 : 0 ≤ minLo (tmL l b 0)) (h1 : 0 ≤ minLo (tmL l b 1)) (n : Bool) (hn : n = tieB (tmL l b 0) (tmL l b 1)) (k : AOut → Option α) : tlK N l b n k = k (.ret (agB (tabC (tmL l b 0) (tmL l b 1)))) := by
  subst hn
  unfold tlK
  have run := count_loop (f := trF N l b) (K := fun id y => if id = 0 then k (.ret (agB (pbG y.2))) else none)
    (fun j => ((j : Int), pbM (match j with
      | 0 => fun q => bif q == 0 then tieB (tmL l b 0) (tmL l b 1) else false
      | 1 => cnF (tmL l b 0) 0 (tabL (tmL l b 0) (tmL l b 1)) fun q => bif q == 0 then tieB (tmL l b 0) (tmL l b 1) else false
      | _ => tabC (tmL l b 0) (tmL l b 1)))) 2 (fun j hj => by
        rcases (show j = 0 ∨ j = 1 by omega) with rfl | rfl
        · exact trF_eq hN l b (t := 0) (by omega) hb hl h0 h1 _
        · exact trF_eq hN l b (t := 1) (by omega) hb hl h0 h1 _) (y := (2, pbM (tabC (tmL l b 0) (tmL l b 1)))) (b := 0) (by
        unfold trF
        rfl) (N := N) (by omega)
  refine run.trans ?_
  rw [if_pos rfl]
  exact congrArg k (congrArg AOut.ret (agB_congr fun q hq => pbG_M _ hq))
theorem tie_eq (p q : List RdI) : tieC p q = decide (max (minLo p) (minLo q) ≤ min (minHi p) (minHi q)) := by
  unfold tieC
  refine decide_eq_decide.2 ?_
  rw [show (if minLo p < minLo q then minLo q else minLo p) = max (minLo p) (minLo q) by split <;> omega, show (if minHi q < minHi p then minHi q else minHi p) = min (minHi p) (minHi q) by split <;> omega]
theorem rta_plain {α : Type} {N : Nat} (hN : 20 ≤ N) (l : List SnI) (b : List RdI) (hb : l.length ≤ b.length) (hl : l.length ≤ 16) (h0 : 0 ≤ minLo (tmL l b 0)) (h1 : 0 ≤ minLo (tmL l b 1)) (k : AOut → Option α) : rtX N l b k = k (.ret (agB (tabC (tmL l b 0) (tmL l b 1)))) := by
  unfold rtX
  rw [decide_eq_true hb, decide_eq_true hl, Bool.and_true, cond_true, cond_true]
  cases ha : awB (tmL l b 0)
  · rw [cond_false]
    exact tlK_eq hN l b hb hl h0 h1 _ (by unfold tieB; rw [ha, tie_eq]; rfl) k
  · cases hc : awB (tmL l b 1)
    · rw [cond_true, cond_false]
      exact tlK_eq hN l b hb hl h0 h1 _ (by unfold tieB; rw [ha, hc, tie_eq]; rfl) k
    · rw [cond_true, cond_true]
      exact tlK_eq hN l b hb hl h0 h1 _ (by unfold tieB; rw [ha, hc]; rfl) k
def rtaB (l : List SnI) (b : List RdI) : Bool := (decide (l.length ≤ b.length) && decide (l.length ≤ 16)) && (decide (0 ≤ minLo (tmL l b 0)) && decide (0 ≤ minLo (tmL l b 1)))
noncomputable def rtaS : Fsp := fun _ args k => match args with
  | [.ro (.recd (.cons (.int .i64) (.cons (.int .i64) (.cons (.recd (.cons (.int .i64) (.cons (.int .i64) .nil))) .nil)))) l, .ro (.recd (.cons (.int .i64) (.cons (.int .i64) (.cons (.int .i64) .nil)))) b] => bif rtaB l b then k (.ret (agB (tabC (tmL l b 0) (tmL l b 1)))) else none
  | _ => none
theorem rtaS_ok : FspOk Try.prog 28 rtaS := tower_Y fsR3_ok spM0_ok ⟨Try.func28, fun _ _ => by kernel_rfl⟩ (by intro α args k; unfold rtaS; split <;> simp only [cond_bind, Option.bind_some, Option.bind_none]) fun args out hSm hEq => by
  unfold rtaS at hEq
  split at hEq
  · rename_i l b
    cases hc : rtaB l b
    · rw [hc] at hEq; cases hEq
    · rw [hc] at hEq
      unfold rtaB at hc
      simp only [Bool.and_eq_true, decide_eq_true_eq] at hc
      exact ⟨20, 12, ((rta_all 20 0 AOut l b some).trans (rta_plain (Nat.le_refl _) l b hc.1.1 hc.1.2 hc.2.1 hc.2.2 some)).trans hEq⟩
  · cases hEq
/-! Its cells: the scores. -/
theorem tab_any (s o : List RdI) (p : Int → Bool) : (tabL s o).any p = (lims s o).any p := by
  unfold tabL lims
  rw [List.any_append, List.any_append]
  congr 1
  by_cases h : minLo o ≤ minHi o
  · rw [decide_eq_true h, decide_eq_false (show ¬ minLo o > minHi o by omega), cond_true, cond_false, List.any_cons, List.any_cons]
    cases h0 : p (minLo o - 1)
    · rw [Bool.false_or, Bool.false_or]
      have hb : ∀ x y : Bool, (x = true ↔ y = true) → x = y := by decide
      refine hb _ _ ?_
      rw [List.any_eq_true, List.any_eq_true]
      constructor
      · rintro ⟨d, hd, hp⟩
        obtain ⟨r, hr, hd⟩ := List.mem_flatMap.1 hd
        refine ⟨d, List.mem_flatMap.2 ⟨r, hr, ?_⟩, hp⟩
        unfold limT at hd
        rw [← List.filter_append] at hd
        obtain ⟨h1, h2⟩ := List.mem_filter.1 hd
        unfold liP at h2
        rw [Bool.and_eq_true, decide_eq_true_eq, decide_eq_true_eq] at h2
        have h3 : d ≠ minLo o - 1 := fun e => by rw [e, h0] at hp; cases hp
        exact List.mem_filter.2 ⟨h1, by rw [Bool.and_eq_true, decide_eq_true_eq, decide_eq_true_eq]; omega⟩
      · rintro ⟨d, hd, hp⟩
        obtain ⟨r, hr, hd⟩ := List.mem_flatMap.1 hd
        refine ⟨d, List.mem_flatMap.2 ⟨r, hr, ?_⟩, hp⟩
        obtain ⟨h1, h2⟩ := List.mem_filter.1 hd
        rw [Bool.and_eq_true, decide_eq_true_eq, decide_eq_true_eq] at h2
        unfold limT
        rw [← List.filter_append]
        exact List.mem_filter.2 ⟨h1, by unfold liP; rw [Bool.and_eq_true, decide_eq_true_eq, decide_eq_true_eq]; omega⟩
    · rfl
  · rw [decide_eq_false h, decide_eq_true (show minLo o > minHi o by omega)]
    rfl
theorem inA_at (s : List RdI) (hs : s.length ≤ 16) {t u : Nat} (ht : t < 2) (hu : u < 2) (d : Int) {n : Nat} (h1 : 1 ≤ n) (h2 : n ≤ 16) : inA s t d (1 + 17 * u + n) = (decide (t = u) && (decide (max 1 (mustN s d) ≤ n) && decide (n ≤ canN s d))) := by
  have hc := canN_le s d
  unfold inA rndC
  rw [← Bool.decide_and, ← Bool.decide_and, ← Bool.decide_and]
  refine decide_eq_decide.2 ?_
  omega
theorem tabC_0 (p o : List RdI) : tabC p o 0 = tieB p o := by
  have hz : ∀ s t d, inA s t d 0 = false := fun s t d => by
    unfold inA
    rw [decide_eq_false (show ¬ 1 + 17 * t + max 1 (mustN s d) ≤ 0 by omega)]; rfl
  have ha : ∀ s t (L : List Int), (L.any fun d => inA s t d 0) = false := fun s t L => by
    rw [List.any_eq_false]
    exact fun d _ => by rw [hz]; exact Bool.noConfusion
  unfold tabC cnF
  rw [ha, ha, Bool.or_false, Bool.or_false]
  rfl
theorem tabC_at (p o : List RdI) (hp : p.length ≤ 16) (ho : o.length ≤ 16) {u : Nat} (hu : u < 2) {n : Nat} (h1 : 1 ≤ n) (h2 : n ≤ 16) : tabC p o (1 + 17 * u + n) = bif u == 0 then msB p o n else msB o p n := by
  unfold tabC cnF
  rw [tab_any, tab_any]
  show (((bif (1 + 17 * u + n) == 0 then tieB p o else false) || _) || _) = _
  rw [show ((1 + 17 * u + n : Nat) == 0) = false from beq_eq_false_iff_ne.2 (by omega), cond_false, Bool.false_or]
  have hf : ∀ (L : List Int), (L.any fun _ => false) = false := fun L => by rw [List.any_eq_false]; exact fun _ _ => Bool.noConfusion
  rcases (show u = 0 ∨ u = 1 by omega) with rfl | rfl
  · have e1 : ∀ d, inA p 0 d (1 + 17 * 0 + n) = (decide (max 1 (mustN p d) ≤ n) && decide (n ≤ canN p d)) := fun d => inA_at p hp (by omega) (by omega) d h1 h2
    have e2 : ∀ d, inA o 1 d (1 + 17 * 0 + n) = false := fun d => inA_at o ho (by omega) (by omega) d h1 h2
    simp only [e1, e2, hf, Bool.or_false]
    rfl
  · have e1 : ∀ d, inA o 1 d (1 + 17 * 1 + n) = (decide (max 1 (mustN o d) ≤ n) && decide (n ≤ canN o d)) := fun d => inA_at o ho (by omega) (by omega) d h1 h2
    have e2 : ∀ d, inA p 0 d (1 + 17 * 1 + n) = false := fun d => inA_at p hp (by omega) (by omega) d h1 h2
    simp only [e1, e2, hf, Bool.false_or]
    rfl
end Go.Proofs.Ytfbiblmlcepdlaa

namespace Go.Proofs.Ytfbiblmlcepdlaa
open Go.RowKit
noncomputable def fsR4 : FuncId → Option Fsp := fun g =>
  if g = 27 then some rmbdS else
  if g = 28 then some rtaS else
  fsR3 g
theorem fsR4_ok : FsOk fsR4 :=
  fs_cons rmbdS_ok <|
  fs_cons rtaS_ok <|
  fsR3_ok
abbrev SciS := List ScI × Int × Unit
def rsI {α : Type} (c : Nat → Bool) (t : Int) (x : SciS) : Option (LRes SciS α) :=
  bif decide (x.2.1 ≤ 16) then
    if 0 ≤ t ∧ t < ((2 : Nat) : Int) then
      chB 2 0 t fun i => if 0 ≤ x.2.1 ∧ x.2.1 < ((17 : Nat) : Int) then chB 17 0 x.2.1 fun j =>
        bif c (1 + 17 * i + j) then if (x.1.length + [(t, x.2.1, ())].length) * 16 ≤ room then some (.cont (x.1 ++ [(t, x.2.1, ())], IntKind.i64.wrap (x.2.1 + 1), ())) else none
        else some (.cont (x.1, IntKind.i64.wrap (x.2.1 + 1), ())) else none
    else none
  else some (.brk 2 (x.1, x.2.1, ()))
def rsO {α : Type} (N : Nat) (c : Nat → Bool) (x : SciS) : Option (LRes SciS α) :=
  bif decide (x.2.1 < 2) then
    afterL (iterL N (rsI c x.2.1) (x.1, 1, ())) fun id y => if id = 2 then some (.cont (y.1, IntKind.i64.wrap (x.2.1 + 1), ())) else none
  else some (.brk 0 (x.1, x.2.1, ()))
def rsE {α : Type} (N : Nat) (c : Nat → Bool) (s : List ScI) (k : AOut → Option α) : Option α :=
  afterL (iterL N (rsO N c) (s, 0, ())) fun id y => if id = 0 then k (.ret (.tup [.ro nmSh y.1, .int .i64 0])) else none
set_option maxRecDepth 100000 in
theorem rss_text (N n0 : Nat) (α : Type) (l : List SnI) (r : List RdI) (k : AOut → Option α) : evFn real tab ((twY fsR4 spM0).env real tab N (n0 + 12)) N Try.f7 α [.ro SnSh l, .ro RdSh r] k =
 bif bdsE l r != 0 then k (.ret (.tup [.ro nmSh [], .int .i64 (bdsE l r)])) else bif rtaB l (bdsR l r) then bif tabC (tmL l (bdsR l r) 0) (tmL l (bdsR l r) 1) 0 then rsE N (tabC (tmL
 l (bdsR l r) 0) (tmL l (bdsR l r) 1)) ([] ++ [(-1, 0, ())]) k else rsE N (tabC (tmL l (bdsR l r) 0) (tmL l (bdsR l r) 1)) [] k else none := by kernel_rfl
def scTN (s o : List RdI) (t : Int) (i : Nat) : List ScI := ((List.range i).filter fun i => msB s o (i + 1)).map fun i => (t, ((i + 1 : Nat) : Int), ())
theorem scTN_succ (s o : List RdI) (t : Int) (i : Nat) : scTN s o t (i + 1) = bif msB s o (i + 1) then scTN s o t i ++ [(t, ((i + 1 : Nat) : Int), ())] else scTN s o t i := by
  unfold scTN
  rw [List.range_succ, List.filter_append, List.map_append]
  cases h : msB s o (i + 1)
  · have : List.filter (fun i => msB s o (i + 1)) [i] = [] := by simp [h]
    rw [this]; exact List.append_nil _
  · have : List.filter (fun i => msB s o (i + 1)) [i] = [i] := by simp [h]
    rw [this]; rfl
theorem scTN_len (s o : List RdI) (t : Int) (i : Nat) : (scTN s o t i).length ≤ i := by
  unfold scTN
  rw [List.length_map]
  exact Nat.le_trans (List.length_filter_le _ (List.range i)) (by rw [List.length_range]; exact Nat.le_refl i)
theorem rsI_eq {α : Type} {p o : List RdI} (hp : p.length ≤ 16) (ho : o.length ≤ 16) {u : Nat} (hu : u < 2) {s q : List RdI} (hs : (bif u == 0 then p else o) = s) (hq : (bif u == 0 then o else p) = q) {D : List ScI} (hD : D.length ≤ 100) {i : Nat} (hi : i < 16) :
    rsI (α := α) (tabC p o) (u : Int) (D ++ scTN s q (u : Int) i, ((i + 1 : Nat) : Int), ()) = some (.cont (D ++ scTN s q (u : Int) (i + 1), ((i + 1 + 1 : Nat) : Int), ())) := by
  have hl := scTN_len s q (u : Int) i
  have hr : ((D ++ scTN s q (u : Int) i).length + [((u : Int), ((i + 1 : Nat) : Int), ())].length) * 16 ≤ room := by
    rw [List.length_append]
    simp only [room, List.length_cons, List.length_nil]; omega
  unfold rsI
  simp only []
  rw [decide_eq_true (show ((i + 1 : Nat) : Int) ≤ 16 by omega), cond_true, if_pos (show (0 : Int) ≤ (u : Int) ∧ (u : Int) < ((2 : Nat) : Int) by omega), chB_at _ 2 0 (by omega) (by omega), if_pos (by omega), chB_at _ 17 0 (by omega) (by omega), if_pos hr, w64_small (by omega) (by omega), tabC_at p o hp ho hu (by omega) (by omega), scTN_succ]
  have e : (bif u == 0 then msB p o (i + 1) else msB o p (i + 1)) = msB s q (i + 1) := by
    subst hs; subst hq
    cases u == 0 <;> rfl
  have e1 : ((i + 1 : Nat) : Int) + 1 = ((i + 1 + 1 : Nat) : Int) := by omega
  rw [e, e1]
  cases msB s q (i + 1)
  · rfl
  · rw [cond_true, cond_true, List.append_assoc]
theorem rsI_run {α : Type} {N : Nat} (hN : 20 ≤ N) {p o : List RdI} (hp : p.length ≤ 16) (ho : o.length ≤ 16) {u : Nat} (hu : u < 2) {s q : List RdI} (hs : (bif u == 0 then p else o) = s) (hq : (bif u == 0 then o else p) = q) {D : List ScI} (hD : D.length ≤ 100) (K : Nat → SciS → Option α) : afterL (iterL N (rsI (tabC p o) (u : Int)) (D, 1, ())) K = K 2 (D ++ scT s q (u : Int), 17, ()) := by
  have run := count_loop (f := rsI (tabC p o) (u : Int)) (K := K) (fun i => (D ++ scTN s q (u : Int) i, ((i + 1 : Nat) : Int), ())) 16 (fun i hi => rsI_eq hp ho hu hs hq hD hi) (y := (D ++ scT s q (u : Int), 17, ())) (b := 2) (by
    unfold rsI
    rfl) (N := N) (by omega)
  have e0 : D ++ scTN s q (u : Int) 0 = D := List.append_nil D
  exact Eq.trans (congrArg (fun D' => afterL (iterL N (rsI (tabC p o) (u : Int)) (D', 1, ())) K) e0.symm) run
theorem rsE_eq {α : Type} {N : Nat} (hN : 20 ≤ N) {p o : List RdI} (hp : p.length ≤ 16) (ho : o.length ≤ 16) {D : List ScI} (hD : D.length ≤ 50) (k : AOut → Option α) : rsE N (tabC p o) D k = k (.ret (.tup [.ro nmSh (D ++ (scT p o 0 ++ scT o p 1)), .int .i64 0])) := by
  have h16 : (scT p o 0).length ≤ 16 := scTN_len p o 0 16
  unfold rsE
  have run := count_loop (f := rsO N (tabC p o)) (K := fun id y => if id = 0 then k (.ret (.tup [.ro nmSh y.1, .int .i64 0])) else none)
    (fun j => (match j with
      | 0 => (D, 0, ())
      | 1 => (D ++ scT p o 0, 1, ())
      | _ => (D ++ (scT p o 0 ++ scT o p 1), 2, ()))) 2 (fun j hj => by
        rcases (show j = 0 ∨ j = 1 by omega) with rfl | rfl
        · show rsO N (tabC p o) (D, ((0 : Nat) : Int), ()) = _
          unfold rsO
          rw [show decide (((D, ((0 : Nat) : Int), ()) : SciS).2.1 < 2) = true from rfl, cond_true]
          refine (rsI_run hN hp ho (u := 0) (by omega) (s := p) (q := o) rfl rfl (show D.length ≤ 100 by omega) _).trans ?_
          rfl
        · show rsO N (tabC p o) (D ++ scT p o 0, ((1 : Nat) : Int), ()) = _
          unfold rsO
          rw [show decide (((D ++ scT p o 0, ((1 : Nat) : Int), ()) : SciS).2.1 < 2) = true from rfl, cond_true]
          refine (rsI_run hN hp ho (u := 1) (by omega) (s := o) (q := p) rfl rfl (by rw [List.length_append]; omega) _).trans ?_
          rw [if_pos rfl, List.append_assoc]
          rfl) (y := (D ++ (scT p o 0 ++ scT o p 1), 2, ())) (b := 0) (by
        unfold rsO
        rfl) (N := N) (by omega)
  refine run.trans ?_
  rw [if_pos rfl]
theorem rss_plain {α : Type} (l : List SnI) (r : List RdI) (k : AOut → Option α) : (bif bdsE l r != 0 then k (.ret (.tup [.ro nmSh [], .int .i64 (bdsE l r)])) else
    bif rtaB l (bdsR l r) then
      bif tabC (tmL l (bdsR l r) 0) (tmL l (bdsR l r) 1) 0 then rsE 20 (tabC (tmL l (bdsR l r) 0) (tmL l (bdsR l r) 1)) ([] ++ [(-1, 0, ())]) k else rsE 20 (tabC (tmL l (bdsR l r) 0) (tmL l (bdsR l r) 1)) [] k
    else none) = k (.ret (.tup [.ro nmSh (scR l r), .int .i64 (bdsE l r)])) := by
  by_cases h : bdsE l r = 0
  · have eR : bdsR l r = bndM l.length r := by unfold bdsR; rw [h]; rfl
    have eS : scR l r = scL (tmL l (bndM l.length r) 0) (tmL l (bndM l.length r) 1) := by unfold scR; rw [h]; rfl
    rw [eR, eS, h]
    have g0 := tm_good h 0
    have g1 := tm_good h 1
    have hl : l.length ≤ 16 := by
      unfold bdsE at h
      cases q1 : decide (r.length ≤ 256)
      · rw [q1] at h; cases h
      rw [q1, cond_true] at h
      cases q2 : snsB l
      · rw [q2] at h; cases h
      · exact (snsB_at q2).1
    have hB : rtaB l (bndM l.length r) = true := by
      unfold rtaB
      rw [bndM_len, decide_eq_true (Nat.le_refl _), decide_eq_true hl, decide_eq_true (minLo_in g0).1, decide_eq_true (minLo_in g1).1]
      rfl
    rw [hB, show ((0 : Int) != 0) = false from rfl, cond_false, cond_true, tabC_0]
    unfold scL
    cases tieB (tmL l (bndM l.length r) 0) (tmL l (bndM l.length r) 1)
    · exact rsE_eq (Nat.le_refl _) g0.1 g1.1 (by simp) k
    · exact rsE_eq (Nat.le_refl _) g0.1 g1.1 (by simp) k
  · have eS : scR l r = [] := by unfold scR; rw [show (bdsE l r == 0) = false by simpa using h]; rfl
    rw [eS, show (bdsE l r != 0) = true by simpa using h]; rfl
theorem rssS_ok : FspOk Try.prog 7 mscS := tower_Y fsR4_ok spM0_ok ⟨Try.func7, fun _ _ => by kernel_rfl⟩ (by intro α args k; unfold mscS; split <;> rfl) fun args out hSm hEq => by
  unfold mscS at hEq
  split at hEq
  · rename_i l r
    exact ⟨20, 12, ((rss_text 20 0 AOut l r some).trans (rss_plain l r some)).trans hEq⟩
  · cases hEq
/-! Points. -/
noncomputable def fsR5 : FuncId → Option Fsp := fun g =>
  if g = 7 then some mscS else
  fsR4 g
theorem fsR5_ok : FsOk fsR5 :=
  fs_cons rssS_ok <|
  fsR4_ok
theorem rpt_text (N n0 : Nat) (α : Type) (l : List SnI) (r : List RdI) (k : AOut → Option α) : evFn real tab ((twY fsR5 spM0).env real tab N (n0 + 12)) N Try.f9 α [.ro SnSh l, .ro RdSh r] k =
 bif bdsE l r != 0 then k (.ret (.tup [.agg [.int .i64 0, .int .i64 0], .bool false, .int .i64 (bdsE l r)])) else bif ((scR l r).length : Int) == 1 then if 0 ≤ (0 : Int) ∧ (0 : Int)
 < ((scR l r).length : Int) then k (.ret (.tup [.agg [.int .i64 ((scR l r).getD (Int.toNat 0) (0, 0, ())).1, .int .i64 ((scR l r).getD (Int.toNat 0) (0, 0, ())).2.1], .bool true,
 .int .i64 0])) else none else k (.ret (.tup [.agg [.int .i64 0, .int .i64 0], .bool false, .int .i64 0])) := by kernel_rfl
theorem rpt_plain {α : Type} (l : List SnI) (r : List RdI) (k : AOut → Option α) : (bif bdsE l r != 0 then k (.ret (.tup [.agg [.int .i64 0, .int .i64 0], .bool false, .int .i64 (bdsE l r)])) else
    bif ((scR l r).length : Int) == 1 then
      if 0 ≤ (0 : Int) ∧ (0 : Int) < ((scR l r).length : Int) then k (.ret (.tup [.agg [.int .i64 ((scR l r).getD (Int.toNat 0) (0, 0, ())).1, .int .i64 ((scR l r).getD (Int.toNat 0) (0, 0, ())).2.1], .bool true, .int .i64 0])) else none
    else k (.ret (.tup [.agg [.int .i64 0, .int .i64 0], .bool false, .int .i64 0]))) = k (ptO l r) := by
  refine Eq.trans ?_ (mpt_plain l r k)
  by_cases h : bdsE l r = 0
  · rw [h]
    show (bif ((scR l r).length : Int) == 1 then _ else _) = (bif ((scR l r).length : Int) != 1 then _ else _)
    rw [show (((scR l r).length : Int) != 1) = !(((scR l r).length : Int) == 1) from rfl]
    cases ((scR l r).length : Int) == 1 <;> rfl
  · rw [show (bdsE l r != 0) = true by simpa using h]; rfl
theorem rptS_ok : FspOk Try.prog 9 mptS := tower_Y fsR5_ok spM0_ok ⟨Try.func9, fun _ _ => by kernel_rfl⟩ (by intro α args k; unfold mptS; split <;> rfl) fun args out hSm hEq => by
  unfold mptS at hEq
  split at hEq
  · rename_i l r
    exact ⟨0, 12, ((rpt_text 0 0 AOut l r some).trans (rpt_plain l r some)).trans hEq⟩
  · cases hEq
end Go.Proofs.Ytfbiblmlcepdlaa

namespace Go.Proofs.Ytfbiblmlcepdlaa
open Go.RowKit
set_option maxRecDepth 100000 in
theorem rpa_text (N n0 : Nat) (α : Type) (a b : List PrI) (k : AOut → Option α) : evFn real tab ((twY fsR2 spM0).env real tab N (n0 + 12)) N Try.f13 α [.ro nmSh a, .ro nmSh b] k =
 bif (a.length : Int) != (b.length : Int) then k (b1 false) else afterL (iterL N (saF scEq scD0 a b (k (b1 false))) (0, ())) fun id _ => if id = 0 then k (b1 true) else none := by
 kernel_rfl
theorem rpaS_ok : FspOk Try.prog 13 rsaS := tower_Y fsR2_ok spM0_ok ⟨Try.func13, fun _ _ => by kernel_rfl⟩ (by intro α args k; unfold rsaS; split <;> rfl) fun args out hSm hEq => by
  unfold rsaS at hEq
  split at hEq
  · rename_i a b
    exact ⟨a.length + 1, 12, ((rpa_text (a.length + 1) 0 AOut a b some).trans (sa_loop scEq scD0 a b (hSm _ (.head _)).len fun q => some (b1 q))).trans hEq⟩
  · cases hEq
end Go.Proofs.Ytfbiblmlcepdlaa

namespace Go.Proofs.Ytfbiblmlcepdlaa
open Go.RowKit
noncomputable def fsS0 : FuncId → Option Fsp := fun g =>
  if g = 6 then some mscS else
  if g = 7 then some mscS else
  if g = 9 then some mptS else
  if g = 11 then some mdoS else
  if g = 13 then some rsaS else
  fsM9 g
theorem fsS0_ok : FsOk fsS0 :=
  fs_cons mscS_ok <|
  fs_cons rssS_ok <|
  fs_cons rptS_ok <|
  fs_cons rdoS_ok <|
  fs_cons rpaS_ok <|
  fsM9_ok
def stQ (l m : List SnI) (i : Int) : Bool := (stE l i).1 == (stE m i).1 && ((stE l i).2.1 == (stE m i).2.1 && (((stE l i).2.2.1.1 == (stE m i).2.2.1.1 && ((stE l i).2.2.1.2.1 == (stE m i).2.2.1.2.1 && true)) && true))
theorem stQ_refl (l : List SnI) (i : Int) : stQ l l i = true := by
  unfold stQ
  simp only [beq_self_eq_true, Bool.and_self]
def ssF {α : Type} (m l : List SnI) (R : Option α) (x : Int × Unit) : Option (LRes (Int × Unit) α) :=
  bif decide (x.1 < (l.length : Int)) then
    if 0 ≤ x.1 ∧ x.1 < (m.length : Int) then if 0 ≤ x.1 ∧ x.1 < (l.length : Int) then
      bif !stQ m l x.1 then finL R else some (.cont (IntKind.i64.wrap (x.1 + 1), ()))
    else none else none
  else some (.brk 0 (x.1, ()))
theorem ss_run {α : Type} (l : List SnI) (hl : l.length ≤ 20) (R : Option α) (K : Nat → Int × Unit → Option α) : afterL (iterL 30 (ssF l l R) (0, ())) K = K 0 ((l.length : Int), ()) := by
  have hmx : l.length ≤ maxLen := by have : maxLen = 9223372036854775807 := rfl; omega
  refine (count_loop (f := ssF l l R) (fun i => ((i : Int), ())) l.length (fun i hi => ?_) (y := ((l.length : Int), ())) (b := 0) ?_ (by omega)).trans rfl
  · unfold ssF
    simp only [lt_len hi, cond_true, in_len hi, if_pos, and_self, wrap_next hi hmx, stQ_refl]
    rfl
  · unfold ssF; simp only [not_lt_len, cond_false]
set_option maxRecDepth 100000 in
theorem mss_text (N n0 : Nat) (α : Type) (l : List SnI) (r : List RdI) (k : AOut → Option α) : evFn real tab ((twW fsS0 spM0).env real tab N (n0 + 12)) N Try.f3 α [.ro SnSh l, .ro RdSh r] k =
 bif decide ((l.length : Int) > 20) then k (b1 true) else bif decide ((r.length : Int) > 300) then k (b1 true) else if ((List.nil (α := Int)).length + l.length) * 32 ≤ room then if
 ((List.nil (α := Int)).length + r.length) * 24 ≤ room then afterL (iterL N (ssF ([] ++ l) l (k (b1 false))) (0, ())) fun id _ => if id = 0 then bif sameX scEq scD0 (scR ([] ++ l)
 ([] ++ r)) (scR l r) then bif bdsE ([] ++ l) ([] ++ r) == bdsE l r then bif (ptS ([] ++ l) ([] ++ r)).1 == (ptS l r).1 && ((ptS ([] ++ l) ([] ++ r)).2.1 == (ptS l r).2.1 && true)
 then bif ptB ([] ++ l) ([] ++ r) == ptB l r then bif bdsE ([] ++ l) ([] ++ r) == bdsE l r then bif sameX scEq scD0 (doR ([] ++ l) ([] ++ r)) (doR l r) then bif bdsE ([] ++ l) ([] ++
 r) == bdsE l r then bif sameX rdEq rdD ([] ++ r) r then k (b1 true) else k (b1 false) else k (b1 false) else k (b1 false) else k (b1 false) else k (b1 false) else k (b1 false) else
 k (b1 false) else k (b1 false) else none else none else none := by kernel_rfl
theorem mss_true (l : List SnI) (r : List RdI) : evFn real tab ((twW fsS0 spM0).env real tab 30 12) 30 Try.f3 AOut [.ro SnSh l, .ro RdSh r] some = some (b1 true) := by
  refine (mss_text 30 0 AOut l r some).trans ?_
  by_cases h20 : l.length ≤ 20
  case neg => rw [decide_eq_true (show (l.length : Int) > 20 by omega)]; rfl
  by_cases h300 : r.length ≤ 300
  case neg =>
    rw [decide_eq_true (show (r.length : Int) > 300 by omega)]
    cases decide ((l.length : Int) > 20) <;> rfl
  rw [decide_eq_false (show ¬ (l.length : Int) > 20 by omega), decide_eq_false (show ¬ (r.length : Int) > 300 by omega), cond_false, cond_false, if_pos (show ((List.nil (α := Int)).length + l.length) * 32 ≤ room by simp only [room, List.length_nil]; omega), if_pos (show ((List.nil (α := Int)).length + r.length) * 24 ≤ room by simp only [room, List.length_nil]; omega), List.nil_append, List.nil_append]
  refine (ss_run l h20 _ _).trans ?_
  rw [if_pos rfl]
  simp only [sameX_refl scEq_refl, sameX_refl rdEq_refl, beq_self_eq_true, Bool.and_self, cond_true]
def mssF : List AVal → Option AOut
  | [.ro (.recd (.cons (.int .i64) (.cons (.int .i64) (.cons (.recd (.cons (.int .i64) (.cons (.int .i64) .nil))) .nil)))) _, .ro (.recd (.cons (.int .i64) (.cons (.int .i64) (.cons (.int .i64) .nil)))) _] => some (b1 true)
  | _ => none
theorem mss_ok : FspOk Try.prog 3 (toFsp mssF) := tower_W fsS0_ok spM0_ok ⟨Try.func3, fun _ _ => by kernel_rfl⟩ (toFsp_nat _) fun args out hSm hq => by
  have h := toFsp_some hq
  unfold mssF at h
  split at h
  · rename_i l r
    exact ⟨30, 12, (mss_true l r).trans h⟩
  · cases h
end Go.Proofs.Ytfbiblmlcepdlaa
