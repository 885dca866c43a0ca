/- Parts of the proof, in build order. -/
import Derived.Test.YtleceelemogbcaaM6
import Derived.Outline
import Derived.Maps.Own
import Derived.Lib.MinMax
/- Validity of stones and brooms: packages glide and contact. -/
namespace Go.Proofs.Ytleceelemogbcaa
open Go.RowKit

/-- A spot as a value. -/
abbrev spotV (x y : Int) : Value := .agg #[.int .i64 x, .int .i64 y]
/-- A moving stone. -/
structure Mov where
  ax : Int
  ay : Int
  sx : Int
  sy : Int
  spin : Int
abbrev Mov.v (m : Mov) : Value := .agg #[.int .i64 m.ax, .int .i64 m.ay, .int .i64 m.sx, .int .i64 m.sy, .int .i64 m.spin]

theorem gwithin_c (n lo hi : Int) (w : World) : Calls Try.prog 60 #[.int .i64 n, .int .i64 lo, .int .i64 hi] w fun e w' => e = .returned (.bool (wB n lo hi)) ∧ w = w' := by
  unfold wB
  cases h1 : decide (lo ≤ n) <;> cases h2 : decide (n ≤ hi)
  all_goals
    go_enter Try.func60, Try.ntmps60
    go_wp2
    go_ret
    exact ⟨rfl, rfl⟩

theorem gwithinFix_c (n lo hi : Int) (w : World) : Calls Try.prog 96 #[.int .i64 n, .int .i64 lo, .int .i64 hi] w fun e w' => e = .returned (.bool (wB n lo hi)) ∧ w = w' := by
  unfold wB
  cases h1 : decide (lo ≤ n) <;> cases h2 : decide (n ≤ hi)
  all_goals
    go_enter Try.func96, Try.ntmps96
    go_wp2
    go_ret
    exact ⟨rfl, rfl⟩

theorem cwithin_c (n lo hi : Int) (w : World) : Calls Try.prog 74 #[.int .i64 n, .int .i64 lo, .int .i64 hi] w fun e w' => e = .returned (.bool (wB n lo hi)) ∧ w = w' := by
  unfold wB
  cases h1 : decide (lo ≤ n) <;> cases h2 : decide (n ≤ hi)
  all_goals
    go_enter Try.func74, Try.ntmps74
    go_wp2
    go_ret
    exact ⟨rfl, rfl⟩

/-- Have both numbers of a spot at most a size? -/
def sqB (x y most : Int) : Bool := wB x (-most) most && wB y (-most) most

theorem square_g (x y most : Int) (w : World) (h0 : 0 ≤ most) (h1 : most ≤ 9223372036854775807) :
    Calls Try.prog 85 #[spotV x y, .int .i64 most] w fun e w' => e = .returned (.bool (sqB x y most)) ∧ Below w.heap.size w w' := by
  unfold sqB
  cases e1 : wB x (-most) most <;> cases e2 : wB y (-most) most
  all_goals
    have H1 : Hid (wB x (-most) most = _) := e1
    have H2 : Hid (wB y (-most) most = _) := e2
    clear e1 e2
    go_enter Try.func85, Try.ntmps85
    go_wp2_with (go_at_call 96; refine (gwithinFix_c _ _ _ _).mono ?_; rintro e w' ⟨rfl, rfl⟩; first | rw [H1.out] | rw [H2.out])
    go_ret
    exact ⟨rfl, (Below.refl _ _).alloc (Nat.le_refl _) _⟩

/-- Is a moving stone valid? -/
def Mov.ok (m : Mov) : Bool := sqB m.ax m.ay 6553600000 && (sqB m.sx m.sy 65536000 && wB m.spin (-1000) 1000)

/-- ErrArg, unless. -/
def errB (b : Bool) : Int := if b then 0 else 2

/-- A new block's cells, and what lies behind. -/
theorem one_new {w w1 : World} {c1 : Array Value} {t1 : TypeId} (hb : Below (w.alloc (.cells c1 t1)).heap.size (w.alloc (.cells c1 t1)) w1) :
    (∀ i, w1.cell? ⟨w.heap.size, i, none⟩ = c1[i]?) ∧ (∀ i, w1.frozen? ⟨w.heap.size, i, none⟩ = false) ∧ w.heap.size < w1.heap.size ∧ Below w.heap.size w w1 := by
  refine ⟨fun i => ?_, fun i => ?_, ?_, ((Below.refl _ _).alloc (Nat.le_refl _) _).trans (hb.mono (by simp))⟩
  · rw [hb.cell (p := ⟨w.heap.size, i, none⟩) (by simp)]; simp [go_sem]
  · rw [hb.frozen (p := ⟨w.heap.size, i, none⟩) (by simp)]; simp [go_sem]
  · have := hb.size; simp at this; omega

set_option maxHeartbeats 1000000 in
theorem gcheck_c (m : Mov) (w : World) :
    Calls Try.prog 75 #[m.v] w fun e w' => e = .returned (.int .i64 (errB m.ok)) ∧ Below w.heap.size w w' := by
  obtain ⟨ax, ay, sx, sy, spin⟩ := m
  unfold Mov.ok Mov.v
  simp only
  cases e1 : sqB ax ay 6553600000
  · have H1 : Hid (sqB ax ay 6553600000 = _) := e1
    clear e1
    go_enter Try.func75, Try.ntmps75
    go_wp2_with (go_at_call 85; refine (square_g _ _ _ _ (by omega) (by omega)).mono ?_; rintro e w1 ⟨rfl, hb1⟩; rw [H1.out]; obtain ⟨hc, hf, hz, hw⟩ := one_new hb1)
    go_ret
    exact ⟨rfl, hw⟩
  · have H1 : Hid (sqB ax ay 6553600000 = _) := e1
    clear e1
    cases e2 : sqB sx sy 65536000
    · have H2 : Hid (sqB sx sy 65536000 = _) := e2
      clear e2
      go_enter Try.func75, Try.ntmps75
      go_wp2_with (first
        | (go_at_call_of 85 (Value.int .i64 6553600000); refine (square_g ax ay _ _ (by omega) (by omega)).mono ?_; rintro e w1 ⟨rfl, hb1⟩; rw [H1.out]; obtain ⟨hc, hf, hz, hw⟩ := one_new hb1; have c2 := hc 2; have c3 := hc 3)
        | (go_at_call_of 85 (Value.int .i64 65536000); refine (square_g sx sy _ _ (by omega) (by omega)).mono ?_; rintro e w2 ⟨rfl, hb2⟩; rw [H2.out]))
      go_ret
      exact ⟨rfl, hw.trans (hb2.mono (by omega))⟩
    · have H2 : Hid (sqB sx sy 65536000 = _) := e2
      clear e2
      cases e3 : wB spin (-1000) 1000
      all_goals
        have H3 : Hid (wB spin (-1000) 1000 = _) := e3
        clear e3
        go_enter Try.func75, Try.ntmps75
        go_wp2_with (first
          | (go_at_call_of 85 (Value.int .i64 6553600000); refine (square_g ax ay _ _ (by omega) (by omega)).mono ?_; rintro e w1 ⟨rfl, hb1⟩; rw [H1.out]; obtain ⟨hc, hf, hz, hw⟩ := one_new hb1; have c2 := hc 2; have c3 := hc 3; have c4 := hc 4)
          | (go_at_call_of 85 (Value.int .i64 65536000); refine (square_g sx sy _ _ (by omega) (by omega)).mono ?_; rintro e w2 ⟨rfl, hb2⟩; rw [H2.out]; have d4 := (hb2.cell (p := ⟨w.heap.size, 4, none⟩) hz).trans c4)
          | (go_at_call 60; refine (gwithin_c _ _ _ _).mono ?_; rintro e w' ⟨rfl, rfl⟩; rw [H3.out]))
        go_ret
        exact ⟨rfl, hw.trans (hb2.mono (by omega))⟩
end Go.Proofs.Ytleceelemogbcaa

/- Validity of bodies: package contact. -/
namespace Go.Proofs.Ytleceelemogbcaa
open Go.RowKit

/-- A body. -/
structure Bod where
  team : Int
  n : Int
  m : Mov
  out : Bool

/-- A body's cells. -/
def Bod.cells (b : Bod) : Array Value := #[.int .i64 b.team, .int .i64 b.n, .int .i64 b.m.ax, .int .i64 b.m.ay, .int .i64 b.m.sx, .int .i64 b.m.sy, .int .i64 b.m.spin, .bool b.out]

/-- Is a body valid, on its own? -/
def Bod.ok (b : Bod) : Bool := wB b.team 0 1 && (wB b.n 0 7 && b.m.ok)

/-- Is it at rest? -/
def Bod.rests (b : Bod) : Bool := b.m.sx == 0 && b.m.sy == 0

set_option maxHeartbeats 1000000 in
theorem bvalid_c (b : Bod) (w : World) :
    Calls Try.prog 69 #[.agg b.cells] w fun e w' => e = .returned (.bool b.ok) ∧ Below w.heap.size w w' := by
  obtain ⟨team, n, m, out⟩ := b
  obtain ⟨ax, ay, sx, sy, spin⟩ := m
  unfold Bod.ok Bod.cells
  simp only
  cases e1 : wB team 0 1
  · have H1 : Hid (wB team 0 1 = _) := e1
    clear e1
    go_enter Try.func69, Try.ntmps69
    go_wp2_with (go_at_call 74; refine (cwithin_c _ _ _ _).mono ?_; rintro e w' ⟨rfl, rfl⟩; rw [H1.out])
    go_ret
    exact ⟨rfl, (Below.refl _ _).alloc (Nat.le_refl _) _⟩
  have H1 : Hid (wB team 0 1 = _) := e1
  clear e1
  cases e2 : wB n 0 7
  · have H2 : Hid (wB n 0 7 = _) := e2
    clear e2
    go_enter Try.func69, Try.ntmps69
    go_wp2_with (go_at_call 74; refine (cwithin_c _ _ _ _).mono ?_; rintro e w' ⟨rfl, rfl⟩; first | rw [H1.out] | rw [H2.out])
    go_ret
    exact ⟨rfl, (Below.refl _ _).alloc (Nat.le_refl _) _⟩
  have H2 : Hid (wB n 0 7 = _) := e2
  clear e2
  cases e3 : (Mov.mk ax ay sx sy spin).ok
  all_goals
    have H3 : Hid ((Mov.mk ax ay sx sy spin).ok = _) := e3
    clear e3
    go_enter Try.func69, Try.ntmps69
    go_wp2_with (first
      | (go_at_call 74; refine (cwithin_c _ _ _ _).mono ?_; rintro e w' ⟨rfl, rfl⟩; first | rw [H1.out] | rw [H2.out])
      | (go_at_call 75; refine (gcheck_c ⟨ax, ay, sx, sy, spin⟩ _).mono ?_; rintro e w1 ⟨rfl, hb1⟩; rw [H3.out]; simp only [errB]))
    go_ret
    exact ⟨rfl, ((Below.refl _ _).alloc (Nat.le_refl _) _).trans (hb1.mono (by simp))⟩

theorem brests_c (b : Bod) (w : World) :
    Calls Try.prog 70 #[.agg b.cells] w fun e w' => e = .returned (.bool b.rests) ∧ Below w.heap.size w w' := by
  obtain ⟨team, n, m, out⟩ := b
  obtain ⟨ax, ay, sx, sy, spin⟩ := m
  unfold Bod.rests Bod.cells
  simp only
  go_enter Try.func70, Try.ntmps70
  go_wp2_with fail
  all_goals
    go_ret
    exact ⟨by simp [*], (Below.refl _ _).alloc (Nat.le_refl _) _⟩

/-- A stone's name as a key. -/
abbrev keyV (a b : Int) : Value := .agg #[.int .i64 a, .int .i64 b]

theorem equalIn_int (d : Nat) (a c : Int) (w : World) : (Op.equalIn (d + 1) 3 (.int .i64 a) (.int .i64 c)).run Try.prog w = .ok (a == c) w := by
  simp [Op.equalIn, run_underlying Try.underlying3]

theorem part_0 (x y : Value) (w : World) : (part 3 #[x, y] 0).run Try.prog w = .ok x w := by kernel_rfl
theorem part_1 (x y : Value) (w : World) : (part 3 #[x, y] 1).run Try.prog w = .ok y w := by kernel_rfl
theorem size_int (w : World) : (sizeOf 3).run Try.prog w = .ok 1 w := by kernel_rfl

theorem equalIn_key (d : Nat) (a b c e : Int) (w : World) : (Op.equalIn (d + 2) 121 (keyV a b) (keyV c e)).run Try.prog w = .ok (a == c && b == e) w := by
  have h1 := fun a c => equalIn_int d a c w
  rw [Op.equalIn]
  generalize Op.equalIn (d + 1) = f at *
  simp only [Sem.run_bind, run_underlying Try.underlying121, Result.andThen_ok, size_int, Std.Legacy.Range.forIn_eq_forIn_range', List.range', List.forIn_cons, List.forIn_nil]
  have hr : List.range' 0 2 = [0, 1] := rfl
  simp [hr, part_0, part_1, h1, Sem.run_bind]
  by_cases h2 : a = c
  · by_cases h3 : b = e
    · simp [h2, h3, part_0, part_1, h1, Sem.run_bind]
    · simp [h2, h3, part_0, part_1, h1, Sem.run_bind]
  · simp [h2, part_0, part_1, h1, Sem.run_bind]

theorem equal_key (a b c e : Int) (w : World) : (Op.equal 121 (keyV a b) (keyV c e)).run Try.prog w = .ok (a == c && b == e) w := by
  simp only [Op.equal, Op.maxDepth]
  exact equalIn_key 9998 a b c e w

theorem check_key (e : Bool) (a b : Int) (w : World) : (Instr.checkKey e 10000 121 (keyV a b)).run Try.prog w = .ok () w := by
  cases e <;> kernel_rfl
end Go.Proofs.Ytleceelemogbcaa

/- The map of stones' names: package contact. -/
namespace Go.Proofs.Ytleceelemogbcaa
open Go.RowKit

/-- Block B is a map whose keys are just these names. -/
def NamesMap (w : World) (B : Nat) (ks : List (Int × Int)) : Prop :=
  ∃ es clock, w.heap[B]? = some (.map es clock) ∧ es.toList.map (·.key) = ks.map (fun k => keyV k.1 k.2) ∧ ∀ e ∈ es.toList, e.val = .bool true

theorem findAsking_names (a b : Int) (w : World) : ∀ (es : List MapEntry) (ks : List (Int × Int)) (i : Nat), es.map (·.key) = ks.map (fun k => keyV k.1 k.2) → (∀ e ∈ es, e.val = .bool true) →
    ((a, b) ∉ ks → (Instr.findAsking 121 (keyV a b) es i).run Try.prog w = .ok none w) ∧
    ((a, b) ∈ ks → ∃ j, (Instr.findAsking 121 (keyV a b) es i).run Try.prog w = .ok (some (j, .bool true)) w)
  | [], [], i, _, _ => by simp [Instr.findAsking]
  | [], _ :: _, _, h, _ => by simp at h
  | _ :: _, [], _, h, _ => by simp at h
  | e :: es, (c, d) :: ks, i, h, hv => by
    simp only [List.map_cons, List.cons.injEq] at h
    obtain ⟨hk, hr⟩ := h
    obtain ⟨h1, h2⟩ := findAsking_names a b w es ks (i + 1) hr (fun x hx => hv x (List.mem_cons_of_mem _ hx))
    have hval := hv e (List.mem_cons_self ..)
    have heq := equal_key a b c d w
    rw [← hk] at heq
    constructor
    · intro hn
      simp only [List.mem_cons, not_or] at hn
      have hne : (a == c && b == d) = false := by
        have := hn.1
        simp only [Prod.mk.injEq, not_and] at this
        by_cases hac : a = c
        · simp [hac, this hac]
        · simp [hac]
      rw [hne] at heq
      simp [Instr.findAsking, Sem.run_bind, heq, h1 hn.2]
    · intro hm
      by_cases hc : a = c ∧ b = d
      · obtain ⟨rfl, rfl⟩ := hc
        have : (a == a && b == b) = true := by simp
        rw [this] at heq
        exact ⟨i, by simp [Instr.findAsking, Sem.run_bind, heq, hval]⟩
      · have hne : (a == c && b == d) = false := by
          by_cases hac : a = c
          · have : ¬ b = d := fun h => hc ⟨hac, h⟩
            simp [this]
          · simp [hac]
        rw [hne] at heq
        have hm' : (a, b) ∈ ks := by
          rcases List.mem_cons.1 hm with h | h
          · simp only [Prod.mk.injEq] at h; exact absurd h hc
          · exact h
        obtain ⟨j, hj⟩ := h2 hm'
        exact ⟨j, by simp [Instr.findAsking, Sem.run_bind, heq, hj]⟩

theorem findKey_names (a b : Int) (w : World) (es : List MapEntry) (ks : List (Int × Int)) (h : es.map (·.key) = ks.map (fun k => keyV k.1 k.2)) (hv : ∀ e ∈ es, e.val = .bool true) :
    ((a, b) ∉ ks → (Instr.findKey 121 (keyV a b) es).run Try.prog w = .ok none w) ∧
    ((a, b) ∈ ks → ∃ j, (Instr.findKey 121 (keyV a b) es).run Try.prog w = .ok (some (j, .bool true)) w) := by
  obtain ⟨h1, h2⟩ := findAsking_names a b w es ks 0 h hv
  unfold Instr.findKey
  simp only [Sem.run_bind, run_underlying Try.underlying121, Result.andThen_ok]
  cases es with
  | nil =>
    cases ks with
    | nil => simp [Instr.findNow]
    | cons _ _ => simp at h
  | cons e es =>
    have hn : ∀ d, Instr.findNow (.array 2 d) (keyV a b) (e :: es) 0 = none := by
      intro d
      simp [Instr.findNow, Instr.sameNow]
    simp only [hn]
    exact ⟨h1, h2⟩

theorem zero_bool (w : World) : (zeroValue 4).run Try.prog w = .ok (.bool false) w := by kernel_rfl

/-- 'names[k]': is the name there? -/
theorem names_lookup {w : World} {B : Nat} {ks : List (Int × Int)} (h : NamesMap w B ks) (a b : Int) :
    (Instr.lookup 118 (.map (some B)) (keyV a b) false).run Try.prog w = .ok (.bool (decide ((a, b) ∈ ks))) w := by
  obtain ⟨es, clock, hb, hk, hv⟩ := h
  obtain ⟨h1, h2⟩ := findKey_names a b w es.toList ks hk hv
  unfold Instr.lookup
  simp only [Sem.run_bind, run_underlying Try.underlying118, Result.andThen_ok, MapKept.run_getObj_map hb, Sem.run_pure, check_key]
  by_cases hm : (a, b) ∈ ks
  · obtain ⟨j, hj⟩ := h2 hm
    simp [hj, hm]
  · simp [h1 hm, hm, zero_bool]

/-- 'names[k] = true', of a name that was not there. -/
theorem names_update {w : World} {B : Nat} {ks : List (Int × Int)} (h : NamesMap w B ks) (a b : Int) (hn : (a, b) ∉ ks) :
    ∃ w', (Instr.mapUpdate 118 (.map (some B)) (keyV a b) (.bool true)).run Try.prog w = .ok () w' ∧ NamesMap w' B (ks ++ [(a, b)]) ∧ w.grownBy w' (some B) := by
  obtain ⟨es, clock, hb, hk, hv⟩ := h
  obtain ⟨h1, -⟩ := findKey_names a b w es.toList ks hk hv
  refine ⟨ChangeMaps.setBlock w B (.map (es.push { key := keyV a b, val := .bool true, born := clock }) (clock + 1)), ?_, ⟨_, _, ChangeMaps.heap_setBlock_same hb _, ?_, ?_⟩, ⟨rfl, rfl, rfl, by simp [ChangeMaps.setBlock], fun i _ hi => ChangeMaps.heap_setBlock_other hb _ (fun e => hi (by rw [e]))⟩⟩
  · unfold Instr.mapUpdate
    simp [Sem.run_bind, run_underlying Try.underlying118, MapKept.run_getObj_map hb, check_key, h1 hn, MapKept.run_setObj_map _ hb, Result.andThen, ChangeMaps.setBlock]
  · simp [hk]
  · intro e he
    simp only [Array.toList_push, List.mem_append, List.mem_singleton] at he
    rcases he with he | rfl
    · exact hv e he
    · rfl

/-- .. at the operation, for the walk. -/
theorem wpList_names {P : Program} (hP : P = Try.prog) (w : World) {ops : Array Oper} {rest : List Oper} {o : Oper} {a : Act} {Q : Exit → Act → World → Prop}
    (hg : o.guard = none) (m x v : Operand) (hop : o.op = Op.mapUpdate 118 m x v) (B : Nat) (ks : List (Int × Int)) (c d : Int)
    (hm : a.eval m = .map (some B)) (hx : a.eval x = keyV c d) (hv : a.eval v = .bool true) (hown : NamesMap w B ks) (hn : (c, d) ∉ ks)
    (hK : ∀ w', NamesMap w' B (ks ++ [(c, d)]) → w.grownBy w' (some B) → wpList P ops Q rest (a.put o.dst undef) w') :
    wpList P ops Q (o :: rest) a w := by
  subst hP
  refine wpList_plain hg fun K' hK' => ?_
  obtain ⟨w', hrun, r1, r2⟩ := names_update hown c d hn
  unfold Oper.wp
  simp [execOp, hop, hm, hx, hv, hrun, Result.andThen]
  exact hK' _ _ (hK w' r1 r2)

theorem NamesMap.kept {w w' : World} {B : Nat} {ks : List (Int × Int)} (h : NamesMap w B ks) (hb : w'.heap[B]? = w.heap[B]?) : NamesMap w' B ks := by
  obtain ⟨es, clock, h1, h2⟩ := h
  exact ⟨es, clock, hb.trans h1, h2⟩

theorem NamesMap.lt {w : World} {B : Nat} {ks : List (Int × Int)} (h : NamesMap w B ks) : B < w.heap.size := by
  obtain ⟨es, clock, h1, _⟩ := h
  exact (Array.getElem?_eq_some_iff.1 h1).1

theorem NamesMap.below {w w' : World} {B C : Nat} {ks : List (Int × Int)} (h : NamesMap w B ks) (hb : Below C w w') (hc : B < C) : NamesMap w' B ks := h.kept (hb.block B hc)

theorem names_made (w : World) : NamesMap (w.alloc (.map #[] 0)) w.heap.size [] :=
  ⟨#[], 0, by show (w.heap.push _)[w.heap.size]? = _; simp, rfl, by simp⟩

/-- v is a slice of bodies that reads as bs. -/
def Bods (w : World) (v : Value) (bs : List Bod) : Prop :=
  (∃ p cap, v = .slice p 0 cap ∧ bs = []) ∨
  (∃ b off cap, v = .slice (some ⟨b, off, none⟩) bs.length cap ∧ 0 < bs.length ∧ bs.length ≤ 9223372036854775807 ∧ ∀ (i : Nat) (x : Bod), bs[i]? = some x → ∀ j, j < 8 → w.cell? ⟨b, off + i * 8 + j, none⟩ = x.cells[j]?)

theorem Bods.below {w w' : World} {v : Value} {bs : List Bod} {B : Nat} (h : Bods w v bs) (hb : Below B w w') (hB : w.heap.size ≤ B) : Bods w' v bs := by
  rcases h with h | ⟨b, off, cap, rfl, h0, h1, h2⟩
  · exact .inl h
  · refine .inr ⟨b, off, cap, rfl, h0, h1, fun i x hx j hj => ?_⟩
    have hc := h2 i x hx j hj
    have hlt : b < w.heap.size := by
      have : ∃ y, x.cells[j]? = some y := ⟨x.cells[j]'(by simpa [Bod.cells] using hj), by simp⟩
      obtain ⟨y, hy⟩ := this
      exact lt_of_cell (hc.trans hy)
    rw [hb.cell (p := ⟨b, off + i * 8 + j, none⟩) (by show b < B; omega)]
    exact hc

/-- The name of a body. -/
def Bod.name (b : Bod) : Int × Int := (b.team, b.n)

/-- Is something wrong with a body behind others? -/
def Bod.bad (before : List Bod) (b : Bod) : Bool := !b.ok || (decide (b.name ∈ before.map Bod.name) || (b.out && (!b.rests || b.m.spin != 0)))

/-- Are bodies, behind others, all right? -/
def bodsOk (before : List Bod) : List Bod → Bool
  | [] => true
  | b :: r => !b.bad before && bodsOk (before ++ [b]) r

/-- Is a scene valid? -/
def sceneB (bs : List Bod) : Bool := decide (bs.length ≤ 16) && bodsOk [] bs

end Go.Proofs.Ytleceelemogbcaa

/- contact.Check. -/
namespace Go.Proofs.Ytleceelemogbcaa
open Go.RowKit

theorem bad_1 {l : List Bod} {x : Bod} (h : x.ok = false) : x.bad l = true := by simp [Bod.bad, h]
theorem bad_2 {l : List Bod} {x : Bod} (h : decide (x.name ∈ l.map Bod.name) = true) : x.bad l = true := by unfold Bod.bad; rw [h]; simp
theorem bad_3 {l : List Bod} {x : Bod} (h1 : x.out = true) (h : x.rests = false) : x.bad l = true := by simp [Bod.bad, h1, h]
theorem bad_4 {l : List Bod} {x : Bod} (h1 : x.out = true) (h : (x.m.spin != 0) = true) : x.bad l = true := by unfold Bod.bad; rw [h1, h]; simp
theorem good_1 {l : List Bod} {x : Bod} (h1 : x.ok = true) (h2 : decide (x.name ∈ l.map Bod.name) = false) (h3 : x.out = false) : x.bad l = false := by unfold Bod.bad; rw [h1, h2, h3]; rfl
theorem good_2 {l : List Bod} {x : Bod} (h1 : x.ok = true) (h2 : decide (x.name ∈ l.map Bod.name) = false) (h3 : x.rests = true) (h4 : x.m.spin = 0) : x.bad l = false := by unfold Bod.bad; rw [h1, h2, h3, h4]; simp

set_option maxHeartbeats 2000000 in
theorem ccheck_c (bs : List Bod) (v : Value) (w : World) (hv : Bods w v bs) :
    Calls Try.prog 58 #[v] w fun e w' => e = .returned (.int .i64 (errB (sceneB bs))) ∧ Below w.heap.size w w' := by
  have hmm := @run_makeMap Try.prog
  by_cases hl : bs.length ≤ 16
  case neg =>
    have hS : sceneB bs = false := by simp [sceneB, hl]
    rw [hS]
    rcases hv with ⟨_, _, _, rfl⟩ | ⟨b, off, cap, rfl, h0, h1, h2⟩
    · simp at hl
    · have hd : decide ((16 : Int) < (bs.length : Int)) = true := by simp only [decide_eq_true_eq]; omega
      clear h2 hS
      go_enter Try.func58, Try.ntmps58
      go_wp2_with fail
      go_ret
      exact ⟨rfl, Below.refl _ _⟩
  have hS : sceneB bs = bodsOk [] bs := by simp [sceneB, hl]
  have HS := Hid.mk' hS
  clear hS
  have hd : decide ((16 : Int) < (bs.length : Int)) = false := by simp only [decide_eq_false_iff_not]; omega
  rcases hv with ⟨q, cap, rfl, rfl⟩ | ⟨b, off, cap, rfl, h0, h1, h2⟩
  · go_enter Try.func58, Try.ntmps58
    go_wp2_with fail
    go_loop [5, 6, 13] (fun _ _ i => i = .int .i64 0) (fun _ _ _ => 0)
    case atStart => rfl
    case round =>
      subst hrel
      go_wp2_with fail
      go_ret
      exact ⟨by rw [HS.out]; rfl, (Below.refl _ _).alloc (Nat.le_refl _) _⟩
  have hblt : b < w.heap.size := by
    obtain ⟨x, hx⟩ : ∃ x, bs[0]? = some x := ⟨_, List.getElem?_eq_getElem h0⟩
    exact lt_of_cell (h2 0 x hx 0 (by omega))
  have H2 := Hid.mk' h2
  clear h2
  generalize hn : bs.length = n at *
  have HN := Hid.mk' hn
  clear hn
  go_enter Try.func58, Try.ntmps58
  go_wp2_with fail
  go_loopw [5, 6, 13] (fun _ _ i wr => ∃ k : Nat, k ≤ n ∧ i = .int .i64 k ∧ NamesMap wr w.heap.size ((bs.take k).map Bod.name) ∧ Below w.heap.size w wr ∧ Hid (bodsOk [] bs = bodsOk (bs.take k) (bs.drop k))) (fun _ _ i _ => n - (intOf i).toNat)
  case atStart => exact ⟨0, Nat.zero_le _, rfl, names_made w, (Below.refl _ _).alloc (Nat.le_refl _) _, rfl⟩
  case round =>
    obtain ⟨k, hk, rfl, hmap, hbel, hok⟩ := hrel
    by_cases hlt : k < n
    case neg =>
      have hkn : k = n := by omega
      have hfin : bodsOk [] bs = true := by rw [hok.out, hkn, ← HN.out, List.drop_length]; rfl
      have HF := Hid.mk' hfin
      clear hfin hkn hok
      go_wp2_with fail
      go_ret
      exact ⟨by rw [HS.out, HF.out]; rfl, hbel⟩
    obtain ⟨x, hx⟩ : ∃ x, bs[k]? = some x := ⟨_, List.getElem?_eq_getElem (by rw [HN.out]; exact hlt)⟩
    have hdrop : bs.drop k = x :: bs.drop (k + 1) := by
      rw [List.drop_eq_getElem_cons (by rw [HN.out]; exact hlt)]
      rw [List.getElem?_eq_getElem (by rw [HN.out]; exact hlt), Option.some.injEq] at hx
      rw [hx]
    have htake : bs.take (k + 1) = bs.take k ++ [x] := by
      rw [List.take_add_one, hx]; rfl
    have hstep : bodsOk [] bs = (!x.bad (bs.take k) && bodsOk (bs.take (k + 1)) (bs.drop (k + 1))) := by
      rw [hok.out, hdrop, htake]; rfl
    have HST := Hid.mk' hstep
    have HTK := Hid.mk' htake
    have hc := fun j (hj : j < 8) => (hbel.cell (p := ⟨b, off + k * 8 + j, none⟩) hblt).trans (H2.out k x hx j hj)
    clear hstep htake hdrop hok hx
    obtain ⟨team, num, m, out⟩ := x
    obtain ⟨ax, ay, sx, sy, spin⟩ := m
    have c0 := hc 0 (by omega)
    have c1 := hc 1 (by omega)
    have c2 := hc 2 (by omega)
    have c3 := hc 3 (by omega)
    have c4 := hc 4 (by omega)
    have c5 := hc 5 (by omega)
    have c6 := hc 6 (by omega)
    have c7 := hc 7 (by omega)
    simp only [Bod.cells, List.getElem?_toArray, List.getElem?_cons_zero, List.getElem?_cons_succ, Nat.add_zero] at c0 c1 c2 c3 c4 c5 c6 c7
    clear hc
    cases e1 : Bod.ok ⟨team, num, ⟨ax, ay, sx, sy, spin⟩, out⟩
    case false =>
      have HOK := Hid.mk' e1
      have HMEM : Hid (decide ((team, num) ∈ (bs.take k).map Bod.name) = decide ((team, num) ∈ (bs.take k).map Bod.name)) := rfl
      have HBF : Hid (bodsOk [] bs = false) := by show _ = _; rw [HST.out, bad_1 HOK.out]; rfl
      clear e1
      go_wp2_with (go_at_call 69; refine (bvalid_c ⟨team, num, ⟨ax, ay, sx, sy, spin⟩, out⟩ _).mono ?_; rintro e w1 ⟨rfl, hb1⟩; rw [HOK.out]; obtain ⟨hc1, hc2, hf1, hf2, hz⟩ := two_new hb1; have d0 := hc2 0; have d1 := hc2 1; have d2 := hc2 2; have d3 := hc2 3; have d4 := hc2 4; have d5 := hc2 5; have d6 := hc2 6; have d7 := hc2 7; have hbw : Below wr.heap.size wr w1 := (((Below.refl _ _).alloc (Nat.le_refl _) _).alloc (by simp) _).trans (hb1.mono (by simp <;> omega)); have hm1 := hmap.below hbw hmap.lt; have hlk := names_lookup hm1 team num; rw [HMEM.out] at hlk; clear hc1 hc2 hf1 hf2)
      go_ret
      exact ⟨by rw [HS.out, HBF.out]; rfl, hbel.trans (hbw.mono hbel.size)⟩
    have HOK := Hid.mk' e1
    clear e1
    cases e2 : decide ((team, num) ∈ (bs.take k).map Bod.name)
    case true =>
      have HMEM := Hid.mk' e2
      have HBF : Hid (bodsOk [] bs = false) := by show _ = _; rw [HST.out, bad_2 HMEM.out]; rfl
      clear e2
      go_wp2_with (go_at_call 69; refine (bvalid_c ⟨team, num, ⟨ax, ay, sx, sy, spin⟩, out⟩ _).mono ?_; rintro e w1 ⟨rfl, hb1⟩; rw [HOK.out]; obtain ⟨hc1, hc2, hf1, hf2, hz⟩ := two_new hb1; have d0 := hc2 0; have d1 := hc2 1; have d2 := hc2 2; have d3 := hc2 3; have d4 := hc2 4; have d5 := hc2 5; have d6 := hc2 6; have d7 := hc2 7; have hbw : Below wr.heap.size wr w1 := (((Below.refl _ _).alloc (Nat.le_refl _) _).alloc (by simp) _).trans (hb1.mono (by simp <;> omega)); have hm1 := hmap.below hbw hmap.lt; have hlk := names_lookup hm1 team num; rw [HMEM.out] at hlk; clear hc1 hc2 hf1 hf2)
      go_ret
      exact ⟨by rw [HS.out, HBF.out]; rfl, hbel.trans (hbw.mono hbel.size)⟩
    have HMEM := Hid.mk' e2
    clear e2
    cases out
    case false =>
      have HBG : Hid (bodsOk [] bs = bodsOk (bs.take (k + 1)) (bs.drop (k + 1))) := by show _ = _; rw [HST.out, good_1 HOK.out HMEM.out rfl]; rfl
      have HNM : Hid ((team, num) ∉ (bs.take k).map Bod.name) := of_decide_eq_false HMEM.out
      have HKS : Hid ((bs.take (k + 1)).map Bod.name = (bs.take k).map Bod.name ++ [(team, num)]) := by
        show _ = _
        rw [HTK.out, List.map_append]; rfl
      go_wp2_with (first
        | (go_at_call 69; refine (bvalid_c ⟨team, num, ⟨ax, ay, sx, sy, spin⟩, false⟩ _).mono ?_; rintro e w1 ⟨rfl, hb1⟩; rw [HOK.out]; obtain ⟨hc1, hc2, hf1, hf2, hz⟩ := two_new hb1; have d0 := hc2 0; have d1 := hc2 1; have d2 := hc2 2; have d3 := hc2 3; have d4 := hc2 4; have d5 := hc2 5; have d6 := hc2 6; have d7 := hc2 7; have hbw : Below wr.heap.size wr w1 := (((Below.refl _ _).alloc (Nat.le_refl _) _).alloc (by simp) _).trans (hb1.mono (by simp <;> omega)); have hm1 := hmap.below hbw hmap.lt; have hlk := names_lookup hm1 team num; rw [HMEM.out] at hlk; clear hc1 hc2 hf1 hf2)
        | (at_mapUpdate; refine wpList_names rfl _ rfl _ _ _ rfl w.heap.size ((bs.take k).map Bod.name) team num rfl rfl rfl hm1 HNM.out ?_; intro w3 hm3 hg3))
      go_roundw
      case rel => exact ⟨k + 1, by omega, by go_num, by rw [HKS.out]; exact hm3, (hbel.trans (hbw.mono hbel.size)).grown hg3 (by have := hbw.size; have := hbel.size; omega) (fun q hq => by cases hq; exact Nat.le_refl _), HBG.out⟩
      case measure => simp [intOf]; omega
    cases e3 : Bod.rests ⟨team, num, ⟨ax, ay, sx, sy, spin⟩, true⟩
    case false =>
      have HR := Hid.mk' e3
      have HBF : Hid (bodsOk [] bs = false) := by show _ = _; rw [HST.out, bad_3 rfl HR.out]; rfl
      clear e3
      go_wp2_with (first
        | (go_at_call 69; refine (bvalid_c ⟨team, num, ⟨ax, ay, sx, sy, spin⟩, true⟩ _).mono ?_; rintro e w1 ⟨rfl, hb1⟩; rw [HOK.out]; obtain ⟨hc1, hc2, hf1, hf2, hz⟩ := two_new hb1; have d0 := hc2 0; have d1 := hc2 1; have d2 := hc2 2; have d3 := hc2 3; have d4 := hc2 4; have d5 := hc2 5; have d6 := hc2 6; have d7 := hc2 7; have hbw : Below wr.heap.size wr w1 := (((Below.refl _ _).alloc (Nat.le_refl _) _).alloc (by simp) _).trans (hb1.mono (by simp <;> omega)); have hm1 := hmap.below hbw hmap.lt; have hlk := names_lookup hm1 team num; rw [HMEM.out] at hlk; clear hc1 hc2 hf1 hf2)
        | (go_at_call 70; refine (brests_c ⟨team, num, ⟨ax, ay, sx, sy, spin⟩, true⟩ _).mono ?_; rintro e w2 ⟨rfl, hb2⟩; rw [HR.out]; have f0 := (hb2.cell (p := ⟨wr.heap.size + 1, 0, none⟩) hz).trans d0; have f1 := (hb2.cell (p := ⟨wr.heap.size + 1, 1, none⟩) hz).trans d1; have f6 := (hb2.cell (p := ⟨wr.heap.size + 1, 6, none⟩) hz).trans d6; have hm2 := hm1.below hb2 hm1.lt; clear d0 d1 d2 d3 d4 d5 d6 d7 hlk))
      go_ret
      exact ⟨by rw [HS.out, HBF.out]; rfl, (hbel.trans (hbw.mono hbel.size)).trans (hb2.mono (by have := hbw.size; have := hbel.size; omega))⟩
    have HR := Hid.mk' e3
    clear e3
    by_cases hs : spin = 0
    case neg =>
      have hsb : (spin != 0) = true := by simpa using hs
      have HSB := Hid.mk' hsb
      have HBF : Hid (bodsOk [] bs = false) := by show _ = _; rw [HST.out, bad_4 rfl HSB.out]; rfl
      clear hs
      go_wp2_with (first
        | (go_at_call 69; refine (bvalid_c ⟨team, num, ⟨ax, ay, sx, sy, spin⟩, true⟩ _).mono ?_; rintro e w1 ⟨rfl, hb1⟩; rw [HOK.out]; obtain ⟨hc1, hc2, hf1, hf2, hz⟩ := two_new hb1; have d0 := hc2 0; have d1 := hc2 1; have d2 := hc2 2; have d3 := hc2 3; have d4 := hc2 4; have d5 := hc2 5; have d6 := hc2 6; have d7 := hc2 7; have hbw : Below wr.heap.size wr w1 := (((Below.refl _ _).alloc (Nat.le_refl _) _).alloc (by simp) _).trans (hb1.mono (by simp <;> omega)); have hm1 := hmap.below hbw hmap.lt; have hlk := names_lookup hm1 team num; rw [HMEM.out] at hlk; clear hc1 hc2 hf1 hf2)
        | (go_at_call 70; refine (brests_c ⟨team, num, ⟨ax, ay, sx, sy, spin⟩, true⟩ _).mono ?_; rintro e w2 ⟨rfl, hb2⟩; rw [HR.out]; have f0 := (hb2.cell (p := ⟨wr.heap.size + 1, 0, none⟩) hz).trans d0; have f1 := (hb2.cell (p := ⟨wr.heap.size + 1, 1, none⟩) hz).trans d1; have f6 := (hb2.cell (p := ⟨wr.heap.size + 1, 6, none⟩) hz).trans d6; have hm2 := hm1.below hb2 hm1.lt; clear d0 d1 d2 d3 d4 d5 d6 d7 hlk))
      go_ret
      exact ⟨by rw [HS.out, HBF.out]; rfl, (hbel.trans (hbw.mono hbel.size)).trans (hb2.mono (by have := hbw.size; have := hbel.size; omega))⟩
    subst hs
    have HBG : Hid (bodsOk [] bs = bodsOk (bs.take (k + 1)) (bs.drop (k + 1))) := by show _ = _; rw [HST.out, good_2 HOK.out HMEM.out HR.out rfl]; rfl
    have HNM : Hid ((team, num) ∉ (bs.take k).map Bod.name) := of_decide_eq_false HMEM.out
    have HKS : Hid ((bs.take (k + 1)).map Bod.name = (bs.take k).map Bod.name ++ [(team, num)]) := by
      show _ = _
      rw [HTK.out, List.map_append]; rfl
    go_wp2_with (first
      | (go_at_call 69; refine (bvalid_c ⟨team, num, ⟨ax, ay, sx, sy, 0⟩, true⟩ _).mono ?_; rintro e w1 ⟨rfl, hb1⟩; rw [HOK.out]; obtain ⟨hc1, hc2, hf1, hf2, hz⟩ := two_new hb1; have d0 := hc2 0; have d1 := hc2 1; have d2 := hc2 2; have d3 := hc2 3; have d4 := hc2 4; have d5 := hc2 5; have d6 := hc2 6; have d7 := hc2 7; have hbw : Below wr.heap.size wr w1 := (((Below.refl _ _).alloc (Nat.le_refl _) _).alloc (by simp) _).trans (hb1.mono (by simp <;> omega)); have hm1 := hmap.below hbw hmap.lt; have hlk := names_lookup hm1 team num; rw [HMEM.out] at hlk; clear hc1 hc2 hf1 hf2)
      | (go_at_call 70; refine (brests_c ⟨team, num, ⟨ax, ay, sx, sy, 0⟩, true⟩ _).mono ?_; rintro e w2 ⟨rfl, hb2⟩; rw [HR.out]; have f0 := (hb2.cell (p := ⟨wr.heap.size + 1, 0, none⟩) hz).trans d0; have f1 := (hb2.cell (p := ⟨wr.heap.size + 1, 1, none⟩) hz).trans d1; have f6 := (hb2.cell (p := ⟨wr.heap.size + 1, 6, none⟩) hz).trans d6; have hm2 := hm1.below hb2 hm1.lt; clear d0 d1 d2 d3 d4 d5 d6 d7 hlk)
      | (at_mapUpdate; refine wpList_names rfl _ rfl _ _ _ rfl w.heap.size ((bs.take k).map Bod.name) team num rfl rfl rfl hm2 HNM.out ?_; intro w3 hm3 hg3))
    go_roundw
    case rel => exact ⟨k + 1, by omega, by go_num, by rw [HKS.out]; exact hm3, ((hbel.trans (hbw.mono hbel.size)).trans (hb2.mono (by have := hbw.size; have := hbel.size; omega))).grown hg3 (by have := hb2.size; have := hbw.size; have := hbel.size; omega) (fun q hq => by cases hq; exact Nat.le_refl _), HBG.out⟩
    case measure => simp [intOf]; omega
end Go.Proofs.Ytleceelemogbcaa

/- glide.CheckBrooms. -/
namespace Go.Proofs.Ytleceelemogbcaa
open Go.RowKit

/-- A broom. -/
structure Brm where
  lo : Int
  hi : Int
  st : Int
abbrev Brm.v (b : Brm) : Value := .agg #[.int .i64 b.lo, .int .i64 b.hi, .int .i64 b.st]

def brm0 : Brm := ⟨0, 0, 0⟩
/-- The broom at a place. -/
def bat (l : List Brm) (i : Nat) : Brm := l.getD i brm0

/-- v is a slice of brooms that reads as l. -/
def Brms (w : World) (v : Value) (l : List Brm) : Prop :=
  (∃ p cap, v = .slice p 0 cap ∧ l = []) ∨
  (∃ b off cap, v = .slice (some ⟨b, off, none⟩) l.length cap ∧ 0 < l.length ∧ l.length ≤ 9223372036854775807 ∧ ∀ i, i < l.length → w.cell? ⟨b, off + i * 3, none⟩ = some (.int .i64 (bat l i).lo) ∧ w.cell? ⟨b, off + i * 3 + 1, none⟩ = some (.int .i64 (bat l i).hi) ∧ w.cell? ⟨b, off + i * 3 + 2, none⟩ = some (.int .i64 (bat l i).st))

theorem Brms.below {w w' : World} {v : Value} {l : List Brm} {B : Nat} (h : Brms w v l) (hb : Below B w w') (hB : w.heap.size ≤ B) : Brms w' v l := by
  rcases h with h | ⟨b, off, cap, rfl, h0, h1, h2⟩
  · exact .inl h
  · refine .inr ⟨b, off, cap, rfl, h0, h1, fun i hi => ?_⟩
    obtain ⟨a, c, d⟩ := h2 i hi
    have hlt := lt_of_cell a
    exact ⟨(hb.cell (p := ⟨b, _, none⟩) (by show b < B; omega)).trans a, (hb.cell (p := ⟨b, _, none⟩) (by show b < B; omega)).trans c, (hb.cell (p := ⟨b, _, none⟩) (by show b < B; omega)).trans d⟩

theorem Brms.len_le {w : World} {v : Value} {l : List Brm} (h : Brms w v l) : l.length ≤ 9223372036854775807 := by
  rcases h with ⟨_, _, _, rfl⟩ | ⟨_, _, _, _, _, h1, _⟩
  · simp
  · exact h1

theorem Brms.shape {w : World} {v : Value} {l : List Brm} (h : Brms w v l) : ∃ p cap, v = .slice p l.length cap := by
  rcases h with ⟨p, cap, rfl, rfl⟩ | ⟨b, off, cap, rfl, _⟩
  · exact ⟨p, cap, rfl⟩
  · exact ⟨_, _, rfl⟩

theorem bat_mem {l : List Brm} {i : Nat} (h : i < l.length) : bat l i ∈ l := by
  rw [bat, List.getD_eq_getElem?_getD, List.getElem?_eq_getElem h]; simp

/-- Is something wrong with a broom? -/
def Brm.bad (b : Brm) : Bool := !wB b.lo 0 b.hi || (decide (6000 < b.hi) || !wB b.st 0 1000)

/-- Are brooms valid? -/
def broomsB (l : List Brm) : Bool := decide (l.length ≤ 64) && !(l.any Brm.bad)

theorem brooms1_c (b : Brm) (w : World) : Calls Try.prog 59 #[b.v] w fun e w' => e = .returned (.bool b.bad) ∧ Below w.heap.size w w' := by
  obtain ⟨lo, hi, st⟩ := b
  unfold Brm.bad Brm.v
  simp only
  cases e1 : wB lo 0 hi <;> cases e2 : decide (6000 < hi) <;> cases e3 : wB st 0 1000
  all_goals
    have H1 : Hid (wB lo 0 hi = _) := e1
    have H3 : Hid (wB st 0 1000 = _) := e3
    clear e1 e3
    go_enter Try.func59, Try.ntmps59
    go_wp2_with (go_at_call 60; refine (gwithin_c _ _ _ _).mono ?_; rintro e w' ⟨rfl, rfl⟩; first | rw [H1.out] | rw [H3.out])
    go_ret
    exact ⟨rfl, (Below.refl _ _).alloc (Nat.le_refl _) _⟩

set_option maxHeartbeats 1000000 in
/-- slices.ContainsFunc's IndexFunc over brooms: is there one that is odd? -/
theorem indexBrm_c (l : List Brm) (v : Value) (w : World) (hv : Brms w v l) :
    Calls Try.prog 71 #[v, .func (.func 59) #[] #[]] w fun e w' => (∃ k : Int, e = .returned (.int .i64 k) ∧ decide (0 ≤ k) = l.any Brm.bad) ∧ Below w.heap.size w w' := by
  rcases hv with ⟨q, cap, rfl, rfl⟩ | ⟨b, off, cap, rfl, h0, h1, h2⟩
  · go_enter Try.func71, Try.ntmps71
    go_wp2_with fail
    go_loop [5, 8] (fun _ i => i = .int .i64 0) (fun _ _ => 0)
    case atStart => rfl
    case round =>
      subst hrel
      go_wp2_with fail
      go_ret
      exact ⟨⟨-1, rfl, by simp⟩, Below.refl _ _⟩
  · have hblt := lt_of_cell (h2 0 h0).1
    have H2 := Hid.mk' h2
    clear h2
    generalize hn : l.length = n at *
    have HN := Hid.mk' hn
    clear hn
    go_enter Try.func71, Try.ntmps71
    go_wp2_with fail
    go_loopw [5, 8] (fun _ i wr => ∃ k : Nat, k ≤ n ∧ i = .int .i64 k ∧ Below w.heap.size w wr ∧ Hid (∀ j, j < k → (bat l j).bad = false)) (fun _ i _ => n - (intOf i).toNat)
    case atStart => exact ⟨0, Nat.zero_le _, rfl, Below.refl _ _, fun j hj => by omega⟩
    case round =>
      obtain ⟨k, hk, rfl, hbel, hno⟩ := hrel
      by_cases hlt : k < n
      · obtain ⟨a0, a1, a2⟩ := H2.out k hlt
        have c0 := (hbel.cell (p := ⟨b, off + k * 3, none⟩) hblt).trans a0
        have c1 := (hbel.cell (p := ⟨b, off + k * 3 + 1, none⟩) hblt).trans a1
        have c2 := (hbel.cell (p := ⟨b, off + k * 3 + 2, none⟩) hblt).trans a2
        clear a0 a1 a2
        have hmem := bat_mem (l := l) (i := k) (by rw [HN.out]; exact hlt)
        have HM := Hid.mk' hmem
        clear hmem
        generalize hx : bat l k = x at *
        have HX := Hid.mk' hx
        clear hx
        obtain ⟨lo, hi, st⟩ := x
        simp only at c0 c1 c2
        cases hb : (Brm.mk lo hi st).bad
        · have HB := Hid.mk' hb
          clear hb
          go_wp2_with (go_at_call 59; refine (brooms1_c ⟨lo, hi, st⟩ _).mono ?_; rintro e w1 ⟨rfl, hb1⟩; rw [HB.out])
          go_roundw
          case rel => exact ⟨k + 1, by omega, by go_num, hbel.trans (hb1.mono hbel.size), upto_succ hno.out (by rw [HX.out]; exact HB.out)⟩
          case measure => simp [intOf]; omega
        · have HB := Hid.mk' hb
          clear hb
          go_wp2_with (go_at_call 59; refine (brooms1_c ⟨lo, hi, st⟩ _).mono ?_; rintro e w1 ⟨rfl, hb1⟩; rw [HB.out])
          go_ret
          refine ⟨⟨k, rfl, ?_⟩, hbel.trans (hb1.mono hbel.size)⟩
          rw [show decide ((0 : Int) ≤ (k : Int)) = true by simp]
          exact (List.any_eq_true.2 ⟨_, HM.out, HB.out⟩).symm
      · go_wp2_with fail
        go_ret
        refine ⟨⟨-1, rfl, ?_⟩, hbel⟩
        rw [show decide ((0 : Int) ≤ -1) = false from rfl]
        refine (List.any_eq_false.2 fun x hx => ?_).symm
        obtain ⟨j, hj, rfl⟩ := List.mem_iff_getElem.1 hx
        have := hno.out j (by have := HN.out; omega)
        rw [bat, List.getD_eq_getElem?_getD, List.getElem?_eq_getElem hj] at this
        simpa using this

theorem containsBrm_c (l : List Brm) (v : Value) (w : World) (hv : Brms w v l) :
    Calls Try.prog 61 #[v, .func (.func 59) #[] #[]] w fun e w' => e = .returned (.bool (l.any Brm.bad)) ∧ Below w.heap.size w w' := by
  have HV := Hid.mk' hv
  clear hv
  go_enter Try.func61, Try.ntmps61
  go_wp2_with (go_at_call 71; refine (indexBrm_c l v _ HV.out).mono ?_; rintro e w1 ⟨⟨k, rfl, hk⟩, hb⟩; have HK := Hid.mk' hk; clear hk)
  go_ret
  exact ⟨by rw [← HK.out]; rfl, hb⟩

theorem checkBrooms_c (l : List Brm) (v : Value) (w : World) (hv : Brms w v l) :
    Calls Try.prog 35 #[v] w fun e w' => e = .returned (.int .i64 (errB (broomsB l))) ∧ Below w.heap.size w w' := by
  unfold broomsB
  have HV := Hid.mk' hv
  obtain ⟨p, cap, rfl⟩ := hv.shape
  have hl := hv.len_le
  clear hv
  by_cases h : l.length ≤ 64
  case neg =>
    have hd : decide ((64 : Int) < (l.length : Int)) = true := by simp only [decide_eq_true_eq]; omega
    have hf : decide (l.length ≤ 64) = false := by simpa using h
    have HF := Hid.mk' hf
    clear hf h
    go_enter Try.func35, Try.ntmps35
    go_wp2_with fail
    go_ret
    exact ⟨by rw [HF.out]; rfl, Below.refl _ _⟩
  have hd : decide ((64 : Int) < (l.length : Int)) = false := by simp only [decide_eq_false_iff_not]; omega
  have hf : decide (l.length ≤ 64) = true := by simpa using h
  have HF := Hid.mk' hf
  clear hf h
  cases h2 : l.any Brm.bad
  all_goals
    have H2 : Hid (l.any Brm.bad = _) := h2
    clear h2
    go_enter Try.func35, Try.ntmps35
    go_wp2_with (go_at_call 61; refine (containsBrm_c l _ _ HV.out).mono ?_; rintro e w1 ⟨rfl, hb⟩; rw [H2.out])
    go_ret
    exact ⟨by rw [HF.out]; rfl, hb⟩
end Go.Proofs.Ytleceelemogbcaa

/- Package skill: valid, body, CheckCall. -/
namespace Go.Proofs.Ytleceelemogbcaa
open Go.RowKit

/-- A call, whose brooms are the value bv and read as l. -/
structure Cal where
  team : Int
  n : Int
  m : Mov
  l : List Brm
  stx : Int
  sty : Int

/-- A call's cells, where the value of its brooms is bv. -/
def Cal.cells (c : Cal) (bv : Value) : Array Value := #[.int .i64 c.team, .int .i64 c.n, .int .i64 c.m.ax, .int .i64 c.m.ay, .int .i64 c.m.sx, .int .i64 c.m.sy, .int .i64 c.m.spin, bv, .int .i64 c.stx, .int .i64 c.sty]

/-- The body of a call. -/
def Cal.body (c : Cal) : Bod := ⟨c.team, c.n, c.m, false⟩

theorem sbody_c (c : Cal) (bv : Value) (w : World) :
    Calls Try.prog 34 #[.agg (c.cells bv)] w fun e w' => e = .returned (.agg c.body.cells) ∧ Below w.heap.size w w' := by
  obtain ⟨team, n, m, l, stx, sty⟩ := c
  obtain ⟨ax, ay, sx, sy, spin⟩ := m
  unfold Cal.cells Cal.body Bod.cells
  simp only
  go_enter Try.func34, Try.ntmps34
  go_wp2_with fail
  exact bodyPost_ret (v := .agg #[.int .i64 team, .int .i64 n, .int .i64 ax, .int .i64 ay, .int .i64 sx, .int .i64 sy, .int .i64 spin, .bool false]) (by simp [results, Try.results34, go_sem]) rfl ⟨rfl, ((Below.refl _ _).alloc (Nat.le_refl _) _).alloc (by simp) _⟩

theorem bad_nil (b : Bod) (h : b.out = false) : b.bad [] = !b.ok := by simp [Bod.bad, h]

theorem scene_one (b : Bod) (h : b.out = false) : sceneB [b] = b.ok := by
  simp [sceneB, bodsOk, bad_nil b h]

theorem svalid_c (b : Bod) (w : World) (h : b.out = false) :
    Calls Try.prog 33 #[.agg b.cells] w fun e w' => e = .returned (.bool b.ok) ∧ Below w.heap.size w w' := by
  obtain ⟨team, n, m, out⟩ := b
  obtain ⟨ax, ay, sx, sy, spin⟩ := m
  simp only at h
  subst h
  have hs := scene_one ⟨team, n, ⟨ax, ay, sx, sy, spin⟩, false⟩ rfl
  cases hb : (Bod.mk team n ⟨ax, ay, sx, sy, spin⟩ false).ok
  all_goals
    rw [hb] at hs
    have HS := Hid.mk' hs
    clear hs hb
    have hv : ∀ o t, Bods ((w.alloc o).alloc (.cells #[.int .i64 team, .int .i64 n, .int .i64 ax, .int .i64 ay, .int .i64 sx, .int .i64 sy, .int .i64 spin, .bool false] t)) (.slice (some ⟨w.heap.size + 1, 0, none⟩) 1 1) [⟨team, n, ⟨ax, ay, sx, sy, spin⟩, false⟩] := by
      intro o t
      refine .inr ⟨w.heap.size + 1, 0, 1, rfl, by simp, by simp, fun i x hx j hj => ?_⟩
      have hi : i = 0 := by
        rcases Nat.eq_zero_or_pos i with h | h
        · exact h
        · rw [List.getElem?_eq_none (by simp; omega)] at hx; simp at hx
      subst hi
      simp only [List.getElem?_cons_zero, Option.some.injEq] at hx
      subst hx
      simp [go_sem, Bod.cells]
    have HV := Hid.mk' hv
    clear hv
    unfold Bod.cells
    simp only
    go_enter Try.func33, Try.ntmps33
    go_wp2_with (go_at_call 58; go_loud (refine (ccheck_c [⟨team, n, ⟨ax, ay, sx, sy, spin⟩, false⟩] _ _ (HV.out _ _)).mono ?_); rintro e w1 ⟨rfl, hb⟩; rw [HS.out]; simp only [errB])
    go_ret
    exact ⟨rfl, ((Below.refl _ _).alloc (Nat.le_refl _) _).trans (((Below.refl _ _).alloc (by simp) _).trans (hb.mono (by simp <;> omega)))⟩
end Go.Proofs.Ytleceelemogbcaa

/- Package skill: CheckCall. -/
namespace Go.Proofs.Ytleceelemogbcaa
open Go.RowKit

theorem cells_kept {w w' : World} {B n : Nat} {cs : Array Value} (h : ∀ i, w.cell? ⟨B, i, none⟩ = cs[i]?) (hb : Below n w w') (hB : B < n) : ∀ i, w'.cell? ⟨B, i, none⟩ = cs[i]? :=
  fun i => (hb.cell (p := ⟨B, i, none⟩) hB).trans (h i)

/-- Is a call valid? -/
def Cal.ok (c : Cal) : Bool := c.body.ok && (!c.body.rests && (broomsB c.l && (wB c.stx 0 8192000 && wB c.sty 0 8192000)))

set_option maxHeartbeats 2000000 in
theorem checkCall_c (c : Cal) (bv : Value) (w : World) (hl : Brms w bv c.l) :
    Calls Try.prog 10 #[.agg (c.cells bv)] w fun e w' => e = .returned (.int .i64 (errB c.ok)) ∧ Below w.heap.size w w' := by
  obtain ⟨team, n, ⟨ax, ay, sx, sy, spin⟩, l, stx, sty⟩ := c
  have HL : Hid (∀ w', Below w.heap.size w w' → Brms w' bv l) := fun w' hb => hl.below hb (Nat.le_refl _)
  obtain ⟨q, cap, rfl⟩ := hl.shape
  clear hl
  simp only at HL
  generalize hln : l.length = ln at *
  clear hln
  obtain ⟨k, hk⟩ : ∃ k, Cal.ok ⟨team, n, ⟨ax, ay, sx, sy, spin⟩, l, stx, sty⟩ = k := ⟨_, rfl⟩
  rw [hk]
  unfold Cal.ok at hk
  unfold Cal.cells
  simp only
  cases e1 : (Cal.body ⟨team, n, ⟨ax, ay, sx, sy, spin⟩, l, stx, sty⟩).ok
  case false =>
    rw [e1] at hk
    have HK : Hid (k = false) := hk.symm
    have H1 := Hid.mk' e1
    clear hk e1
    go_enter Try.func10, Try.ntmps10
    go_wp2_with (first
      | (go_at_call 34; refine (sbody_c ⟨team, n, ⟨ax, ay, sx, sy, spin⟩, l, stx, sty⟩ _ _).mono ?_; rintro e w1 ⟨rfl, hb1⟩; obtain ⟨hc1, hc2, hf1, hf2, hz⟩ := two_new hb1; have hbw : Below w.heap.size w w1 := (((Below.refl _ _).alloc (Nat.le_refl _) _).alloc (by simp) _).trans (hb1.mono (by simp <;> omega)); clear hc1 hf1 hf2)
      | (go_at_call 33; refine (svalid_c _ _ rfl).mono ?_; rintro e w2 ⟨rfl, hb2⟩; rw [H1.out]; have k2 := cells_kept hc2 hb2 hz; have a4 := k2 4; have a5 := k2 5; have a7 := k2 7; have hbw2 : Below w.heap.size w w2 := hbw.trans (hb2.mono hbw.size); have hz2 : w.heap.size + 1 < w2.heap.size := Nat.lt_of_lt_of_le hz hb2.size; clear hc2))
    go_ret
    exact ⟨by rw [HK.out]; rfl, hbw2⟩
  rw [e1] at hk
  have H1 := Hid.mk' e1
  clear e1
  by_cases hs : sx = 0 ∧ sy = 0
  case pos =>
    obtain ⟨rfl, rfl⟩ := hs
    have HK : Hid (k = false) := by rw [← hk]; rfl
    clear hk
    go_enter Try.func10, Try.ntmps10
    go_wp2_with (first
      | (go_at_call 34; refine (sbody_c ⟨team, n, ⟨ax, ay, 0, 0, spin⟩, l, stx, sty⟩ _ _).mono ?_; rintro e w1 ⟨rfl, hb1⟩; obtain ⟨hc1, hc2, hf1, hf2, hz⟩ := two_new hb1; have hbw : Below w.heap.size w w1 := (((Below.refl _ _).alloc (Nat.le_refl _) _).alloc (by simp) _).trans (hb1.mono (by simp <;> omega)); clear hc1 hf1 hf2)
      | (go_at_call 33; refine (svalid_c _ _ rfl).mono ?_; rintro e w2 ⟨rfl, hb2⟩; rw [H1.out]; have k2 := cells_kept hc2 hb2 hz; have a4 := k2 4; have a5 := k2 5; have a7 := k2 7; have hbw2 : Below w.heap.size w w2 := hbw.trans (hb2.mono hbw.size); have hz2 : w.heap.size + 1 < w2.heap.size := Nat.lt_of_lt_of_le hz hb2.size; clear hc2))
    go_ret
    exact ⟨by rw [HK.out]; rfl, hbw2⟩
  have hr : (Cal.body ⟨team, n, ⟨ax, ay, sx, sy, spin⟩, l, stx, sty⟩).rests = false := by
    show (sx == 0 && sy == 0) = false
    by_cases h0 : sx = 0
    · have : ¬ sy = 0 := fun h => hs ⟨h0, h⟩
      simp [this]
    · simp [h0]
  rw [hr] at hk
  clear hr
  have hs' : (sx == 0) = false ∨ ((sx == 0) = true ∧ (sy == 0) = false) := by
    by_cases h0 : sx = 0
    · right
      have : ¬ sy = 0 := fun h => hs ⟨h0, h⟩
      simp [h0, this]
    · left; simp [h0]
  clear hs
  cases e3 : broomsB l
  case false =>
    rw [e3] at hk
    have HK : Hid (k = false) := hk.symm
    have H3 := Hid.mk' e3
    clear hk e3
    rcases hs' with hs | ⟨hs0, hs⟩
    all_goals
      go_enter Try.func10, Try.ntmps10
      go_wp2_with (first
      | (go_at_call 34; refine (sbody_c ⟨team, n, ⟨ax, ay, sx, sy, spin⟩, l, stx, sty⟩ _ _).mono ?_; rintro e w1 ⟨rfl, hb1⟩; obtain ⟨hc1, hc2, hf1, hf2, hz⟩ := two_new hb1; have hbw : Below w.heap.size w w1 := (((Below.refl _ _).alloc (Nat.le_refl _) _).alloc (by simp) _).trans (hb1.mono (by simp <;> omega)); clear hc1 hf1 hf2)
      | (go_at_call 33; refine (svalid_c _ _ rfl).mono ?_; rintro e w2 ⟨rfl, hb2⟩; rw [H1.out]; have k2 := cells_kept hc2 hb2 hz; have a4 := k2 4; have a5 := k2 5; have a7 := k2 7; have hbw2 : Below w.heap.size w w2 := hbw.trans (hb2.mono hbw.size); have hz2 : w.heap.size + 1 < w2.heap.size := Nat.lt_of_lt_of_le hz hb2.size; clear hc2)
      | (go_at_call 35; refine (checkBrooms_c l _ _ (HL.out _ hbw2)).mono ?_; rintro e w3 ⟨rfl, hb3⟩; rw [H3.out]; simp only [errB]; have k3 := cells_kept k2 hb3 hz2; have b8 := k3 8; have b9 := k3 9; have hbw3 : Below w.heap.size w w3 := hbw2.trans (hb3.mono hbw2.size); clear k2 k3 a4 a5 a7))
      go_ret
      exact ⟨by rw [HK.out]; rfl, hbw3⟩
  rw [e3] at hk
  have H3 := Hid.mk' e3
  clear e3
  cases e4 : wB stx 0 8192000
  case false =>
    rw [e4] at hk
    have HK : Hid (k = false) := hk.symm
    have H4 := Hid.mk' e4
    clear hk e4
    rcases hs' with hs | ⟨hs0, hs⟩
    all_goals
      go_enter Try.func10, Try.ntmps10
      go_wp2_with (first
      | (go_at_call 34; refine (sbody_c ⟨team, n, ⟨ax, ay, sx, sy, spin⟩, l, stx, sty⟩ _ _).mono ?_; rintro e w1 ⟨rfl, hb1⟩; obtain ⟨hc1, hc2, hf1, hf2, hz⟩ := two_new hb1; have hbw : Below w.heap.size w w1 := (((Below.refl _ _).alloc (Nat.le_refl _) _).alloc (by simp) _).trans (hb1.mono (by simp <;> omega)); clear hc1 hf1 hf2)
      | (go_at_call 33; refine (svalid_c _ _ rfl).mono ?_; rintro e w2 ⟨rfl, hb2⟩; rw [H1.out]; have k2 := cells_kept hc2 hb2 hz; have a4 := k2 4; have a5 := k2 5; have a7 := k2 7; have hbw2 : Below w.heap.size w w2 := hbw.trans (hb2.mono hbw.size); have hz2 : w.heap.size + 1 < w2.heap.size := Nat.lt_of_lt_of_le hz hb2.size; clear hc2)
      | (go_at_call 35; refine (checkBrooms_c l _ _ (HL.out _ hbw2)).mono ?_; rintro e w3 ⟨rfl, hb3⟩; rw [H3.out]; simp only [errB]; have k3 := cells_kept k2 hb3 hz2; have b8 := k3 8; have b9 := k3 9; have hbw3 : Below w.heap.size w w3 := hbw2.trans (hb3.mono hbw2.size); clear k2 k3 a4 a5 a7)
      | (go_at_call_of 36 (Value.int .i64 stx); refine (withinFix_c stx _ _ _).mono ?_; rintro e w' ⟨rfl, rfl⟩; rw [H4.out]))
      go_ret
      exact ⟨by rw [HK.out]; rfl, hbw3⟩
  rw [e4] at hk
  have H4 := Hid.mk' e4
  clear e4
  cases e5 : wB sty 0 8192000
  all_goals
    rw [e5] at hk
    have HK : Hid (k = _) := hk.symm
    have H5 := Hid.mk' e5
    clear hk e5
    rcases hs' with hs | ⟨hs0, hs⟩
    all_goals
      go_enter Try.func10, Try.ntmps10
      go_wp2_with (first
      | (go_at_call 34; refine (sbody_c ⟨team, n, ⟨ax, ay, sx, sy, spin⟩, l, stx, sty⟩ _ _).mono ?_; rintro e w1 ⟨rfl, hb1⟩; obtain ⟨hc1, hc2, hf1, hf2, hz⟩ := two_new hb1; have hbw : Below w.heap.size w w1 := (((Below.refl _ _).alloc (Nat.le_refl _) _).alloc (by simp) _).trans (hb1.mono (by simp <;> omega)); clear hc1 hf1 hf2)
      | (go_at_call 33; refine (svalid_c _ _ rfl).mono ?_; rintro e w2 ⟨rfl, hb2⟩; rw [H1.out]; have k2 := cells_kept hc2 hb2 hz; have a4 := k2 4; have a5 := k2 5; have a7 := k2 7; have hbw2 : Below w.heap.size w w2 := hbw.trans (hb2.mono hbw.size); have hz2 : w.heap.size + 1 < w2.heap.size := Nat.lt_of_lt_of_le hz hb2.size; clear hc2)
      | (go_at_call 35; refine (checkBrooms_c l _ _ (HL.out _ hbw2)).mono ?_; rintro e w3 ⟨rfl, hb3⟩; rw [H3.out]; simp only [errB]; have k3 := cells_kept k2 hb3 hz2; have b8 := k3 8; have b9 := k3 9; have hbw3 : Below w.heap.size w w3 := hbw2.trans (hb3.mono hbw2.size); clear k2 k3 a4 a5 a7)
      | (go_at_call_of 36 (Value.int .i64 stx); refine (withinFix_c stx _ _ _).mono ?_; rintro e w' ⟨rfl, rfl⟩; rw [H4.out])
      | (go_at_call_of 36 (Value.int .i64 sty); refine (withinFix_c sty _ _ _).mono ?_; rintro e w' ⟨rfl, rfl⟩; rw [H5.out]))
      go_ret
      exact ⟨by rw [HK.out]; rfl, hbw3⟩
end Go.Proofs.Ytleceelemogbcaa

/- Package skill: need, tried. -/
namespace Go.Proofs.Ytleceelemogbcaa
open Go.RowKit

/-- Below block n all blocks but D are as they were. -/
structure Exc (n D : Nat) (w w' : World) : Prop where
  os : w'.os = w.os
  tape : w'.tape = w.tape
  output : w'.output = w.output
  size : w.heap.size ≤ w'.heap.size
  block : ∀ k, k < n → k ≠ D → w'.heap[k]? = w.heap[k]?

theorem Exc.of {n D : Nat} {w w' : World} (h : Below n w w') : Exc n D w w' := ⟨h.os, h.tape, h.output, h.size, fun k hk _ => h.block k hk⟩
theorem Exc.trans {n D : Nat} {a b c : World} (h : Exc n D a b) (k : Exc n D b c) : Exc n D a c :=
  ⟨k.os.trans h.os, k.tape.trans h.tape, k.output.trans h.output, Nat.le_trans h.size k.size, fun i hi hd => (k.block i hi hd).trans (h.block i hi hd)⟩
theorem Exc.mono {n m D : Nat} {w w' : World} (h : Exc n D w w') (hm : m ≤ n) : Exc m D w w' := ⟨h.os, h.tape, h.output, h.size, fun k hk hd => h.block k (Nat.lt_of_lt_of_le hk hm) hd⟩
theorem Exc.cell {n D : Nat} {w w' : World} (h : Exc n D w w') {p : Addr} (hp : p.block < n) (hd : p.block ≠ D) : w'.cell? p = w.cell? p := World.cell?_of_block (w := w) (h.block p.block hp hd)
theorem Exc.frozen {n D : Nat} {w w' : World} (h : Exc n D w w') {p : Addr} (hp : p.block < n) (hd : p.block ≠ D) : w'.frozen? p = w.frozen? p := World.frozen?_of_block (w := w) (h.block p.block hp hd)
theorem Exc.below {n D : Nat} {w w' : World} (h : Exc n D w w') (hn : n ≤ D) : Below n w w' := ⟨h.os, h.tape, h.output, h.size, fun k hk => h.block k hk (by omega)⟩

/-- The panic with which package skill ends its work. -/
def skPanic (e : Int) : List PanicEntry := [{ v := .iface 100 (.agg #[.int .i64 e]), recovered := false }]

theorem sneed_yes (e : Int) (w : World) : Calls Try.prog 52 #[.bool true, .int .i64 e] w fun r w' => r = .returned (.tuple #[]) ∧ w = w' := by
  go_enter Try.func52, Try.ntmps52
  go_wp2
  go_end0
  exact ⟨rfl, rfl⟩

theorem sneed_no (e : Int) (w : World) : Calls Try.prog 52 #[.bool false, .int .i64 e] w fun r w' => r = .panicked (skPanic e) ∧ w = w' := by
  go_enter Try.func52, Try.ntmps52
  go_wp2
  exact ⟨rfl, rfl, rfl⟩

theorem sassert_yes (c : Int) (w : World) : (Instr.typeAssert (.iface 100 (.agg #[.int .i64 c])) 20 100 true).run Try.prog w = .ok (.tuple #[.agg #[.int .i64 c], .bool true]) w := by kernel_rfl
theorem sassert_nil (w : World) : (Instr.typeAssert .nilIface 20 100 true).run Try.prog w = .ok (.tuple #[.agg #[.int .i64 0], .bool false]) w := by kernel_rfl

theorem stried1_panic (b : Nat) (x c : Int) (w : World) (hp : w.cell? ⟨b, 0, none⟩ = some (.int .i64 x)) (fp : w.frozen? ⟨b, 0, none⟩ = false) (hqb : b < w.heap.size) :
    CallsD Try.prog 51 #[.pointer (some ⟨b, 0, none⟩)] (.panicking (skPanic c)) w fun e u' w' =>
      e = .returned (.tuple #[]) ∧ u' = .panicking [{ v := .iface 100 (.agg #[.int .i64 c]), recovered := true }] ∧ w'.cell? ⟨b, 0, none⟩ = some (.int .i64 c) ∧ Exc w.heap.size b w w' := by
  refine callsD_of_wpS Try.func51 rfl fun c₀ cs hu => ?_
  apply wpS_seq
  apply wpS_region
  simp [wpOpsS, go_sem, recoverD, hu, skPanic, Try.ntmps51, Exit.thenS, Array.replicate, List.replicate]
  refine wpS_of_wp ?_
  clear hu
  have hta := fun w => sassert_yes c w
  have ha : ∀ o, Below w.heap.size w (w.alloc o) := fun o => (Below.refl _ _).alloc (Nat.le_refl _) o
  have hp' : ∀ o, (w.alloc o).cell? ⟨b, 0, none⟩ = some (.int .i64 x) := fun o => ((ha o).cell (p := ⟨b, 0, none⟩) hqb).trans hp
  have fp' : ∀ o, (w.alloc o).frozen? ⟨b, 0, none⟩ = false := fun o => ((ha o).frozen (p := ⟨b, 0, none⟩) hqb).trans fp
  clear ha
  go_wp2
  all_goals
    (try go_big_unhide)
    simp [bodyPostS, results, Try.results51, go_sem]
    have hz : (w.setCell ⟨b, 0, none⟩ (.int .i64 c)).heap.size = w.heap.size := by simp [World.setCell]
    have hal : ∀ o, Below w.heap.size (w.setCell ⟨b, 0, none⟩ (.int .i64 c)) ((w.setCell ⟨b, 0, none⟩ (.int .i64 c)).alloc o) := fun o => (Below.refl _ _).alloc (by rw [hz]; exact Nat.le_refl _) o
    refine ⟨((hal _).cell (p := ⟨b, 0, none⟩) hqb).trans (cell_set _ hp), Exc.trans (b := w.setCell ⟨b, 0, none⟩ (.int .i64 c)) ⟨rfl, rfl, rfl, by rw [hz]; exact Nat.le_refl _, fun k hk hd => Below.heap_setCell _ _ _ _ hd⟩ (Exc.of (hal _))⟩

theorem stried1_idle (b : Nat) (w : World) :
    CallsD Try.prog 51 #[.pointer (some ⟨b, 0, none⟩)] .returning w fun e u' w' =>
      e = .returned (.tuple #[]) ∧ u' = .returning ∧ Below w.heap.size w w' := by
  refine callsD_of_wpS Try.func51 rfl fun c₀ cs hu => ?_
  apply wpS_seq
  apply wpS_region
  simp [wpOpsS, go_sem, recoverD, hu, Try.ntmps51, Exit.thenS, Array.replicate, List.replicate]
  refine wpS_of_wp ?_
  have hta := fun w => sassert_nil w
  go_wp2
  all_goals
    simp [bodyPostS, results, Try.results51, go_sem]
    exact ⟨.returning, by cases c₀; simp_all, rfl, (Below.refl _ _).alloc (Nat.le_refl _) _⟩

theorem one_exc {w w1 : World} {c1 : Array Value} {t1 : TypeId} {D : Nat} (hD : D < w.heap.size) (hb : Exc (w.alloc (.cells c1 t1)).heap.size D (w.alloc (.cells c1 t1)) w1) :
    (∀ i, w1.cell? ⟨w.heap.size, i, none⟩ = c1[i]?) ∧ (∀ i, w1.frozen? ⟨w.heap.size, i, none⟩ = false) ∧ w.heap.size < w1.heap.size := by
  refine ⟨fun i => ?_, fun i => ?_, ?_⟩
  · rw [hb.cell (p := ⟨w.heap.size, i, none⟩) (by simp) (by show w.heap.size ≠ D; omega)]; simp [go_sem]
  · rw [hb.frozen (p := ⟨w.heap.size, i, none⟩) (by simp) (by show w.heap.size ≠ D; omega)]; simp [go_sem]
  · have := hb.size; simp at this; omega

set_option maxHeartbeats 1000000 in
/-- skill.tried, where the function returns: it has turned block D alone, so that Q. -/
theorem stried_ok (K : FuncId) (caps : Array Value) (D : Nat) (Q : World → Prop) (he : ∀ args w, (callFunc K args).run Try.prog w = .ok (.enter K args) w) (w : World) (hD : D < w.heap.size)
    (hQ : ∀ a b : World, b.heap[D]? = a.heap[D]? → Q a → Q b)
    (h : ∀ w1, Below w.heap.size w w1 → Calls Try.prog K caps w1 fun e w' => e = .returned (.tuple #[]) ∧ Exc w1.heap.size D w1 w' ∧ Q w') :
    Calls Try.prog 26 #[.func (.func K) #[] caps] w fun e w' => e = .returned (.int .i64 0) ∧ Exc w.heap.size D w w' ∧ Q w' := by
  have hmf : ∀ (fn : Fn) (first cap : Array Value) (w : World), (Instr.makeFunc fn first cap).run Try.prog w = .ok (.func fn first cap) w := fun _ _ _ _ => rfl
  have HH := Hid.mk' h
  have HQ := Hid.mk' hQ
  have hcall : ∀ w, (callFunc K caps).run Try.prog w = .ok (.enter K caps) w := fun w => he caps w
  clear h he hQ
  go_enter_defers Try.func26, Try.ntmps26
  go_wp2_with (go_at_fn K; refine (HH.out _ ((Below.refl _ _).alloc (Nat.le_refl _) _)).mono ?_; rintro e w1 ⟨rfl, hb1, hq⟩; obtain ⟨hc1, hf1, hz⟩ := one_exc hD hb1; have hd1 := hc1 0)
  refine leaves_cons (f := 51) (args := #[.pointer (some ⟨w.heap.size, 0, none⟩)]) (by simp) (by simp [go_sem]) ?_
  have hs : (w1.setCell ⟨w.heap.size, 0, none⟩ (.int .i64 0)).heap.size = w1.heap.size := by simp [World.setCell]
  refine (stried1_idle w.heap.size _).mono ?_
  rintro e u' w2 ⟨rfl, rfl, hb2⟩
  rw [hs] at hb2
  have g1 : w2.cell? ⟨w.heap.size, 0, none⟩ = some (.int .i64 0) := by
    rw [hb2.cell (p := ⟨w.heap.size, 0, none⟩) hz]
    exact cell_set _ hd1
  clear HH hcall hmf hc1 hf1 hd1
  simp [Leaves, settle, results, Try.results26, go_sem, g1]
  have hsc : Below w.heap.size w1 (w1.setCell ⟨w.heap.size, 0, none⟩ (.int .i64 0)) := (Below.refl w.heap.size w1).setCell (p := ⟨w.heap.size, 0, none⟩) (Nat.le_refl _) _
  refine ⟨((Exc.of ((Below.refl w.heap.size w).alloc (Nat.le_refl _) _)).trans (hb1.mono (by simp))).trans ((Exc.of hsc).trans (Exc.of (hb2.mono (by omega)))), ?_⟩
  exact HQ.out _ _ (hb2.block D (by omega)) (HQ.out _ _ (hsc.block D hD) hq)

set_option maxHeartbeats 1000000 in
/-- skill.tried, where the function panics. -/
theorem stried_err (K : FuncId) (caps : Array Value) (D : Nat) (c : Int) (Q : World → Prop) (he : ∀ args w, (callFunc K args).run Try.prog w = .ok (.enter K args) w) (w : World) (hD : D < w.heap.size)
    (hQ : ∀ a b : World, b.heap[D]? = a.heap[D]? → Q a → Q b)
    (h : ∀ w1, Below w.heap.size w w1 → Calls Try.prog K caps w1 fun e w' => e = .panicked (skPanic c) ∧ Exc w1.heap.size D w1 w' ∧ Q w') :
    Calls Try.prog 26 #[.func (.func K) #[] caps] w fun e w' => e = .returned (.int .i64 c) ∧ Exc w.heap.size D w w' ∧ Q w' := by
  have hmf : ∀ (fn : Fn) (first cap : Array Value) (w : World), (Instr.makeFunc fn first cap).run Try.prog w = .ok (.func fn first cap) w := fun _ _ _ _ => rfl
  have HH := Hid.mk' h
  have HQ := Hid.mk' hQ
  have hcall : ∀ w, (callFunc K caps).run Try.prog w = .ok (.enter K caps) w := fun w => he caps w
  clear h he hQ
  go_enter_defers Try.func26, Try.ntmps26
  go_wp2_with (go_at_fn K; refine (HH.out _ ((Below.refl _ _).alloc (Nat.le_refl _) _)).mono ?_; rintro e w1 ⟨rfl, hb1, hq⟩; obtain ⟨hc1, hf1, hz⟩ := one_exc hD hb1)
  refine leaves_cons (f := 51) (args := #[.pointer (some ⟨w.heap.size, 0, none⟩)]) (by simp) (by simp [go_sem]) ?_
  refine (stried1_panic w.heap.size 0 c _ (hc1 0) (hf1 0) hz).mono ?_
  rintro e u' w2 ⟨rfl, rfl, g1, hb2⟩
  clear HH hcall hmf hc1 hf1
  simp [Leaves, settle, results, Try.results26, go_sem, g1]
  refine ⟨((Exc.of ((Below.refl w.heap.size w).alloc (Nat.le_refl _) _)).trans (hb1.mono (by simp))).trans (Exc.of ((hb2.mono (by omega)).below (Nat.le_refl _))), ?_⟩
  exact HQ.out _ _ (hb2.block D (by omega) (by omega)) hq
end Go.Proofs.Ytleceelemogbcaa

/- Package skill: throw, Throw. -/
namespace Go.Proofs.Ytleceelemogbcaa
open Go.RowKit

/-- The body of a miss. -/
def Cal.thrown (c : Cal) (miss : Int) : Bod := ⟨c.team, c.n, ⟨c.m.ax, c.m.ay, c.m.sx + (miss % 7 - 3) * c.stx, c.m.sy + (miss / 7 - 3) * c.sty, c.m.spin⟩, false⟩

theorem small_mul {n x : Int} (h0 : -3 ≤ n) (h1 : n ≤ 3) (h2 : 0 ≤ x) (h3 : x ≤ 8192000) : ∃ p, IntKind.i64.wrap (n * x) = p ∧ -24576000 ≤ p ∧ p ≤ 24576000 ∧ Hid (n * x = p) := by
  have : n = -3 ∨ n = -2 ∨ n = -1 ∨ n = 0 ∨ n = 1 ∨ n = 2 ∨ n = 3 := by omega
  refine ⟨n * x, ?_, ?_, ?_, rfl⟩
  · rw [IntKind.wrap_i64]
    rcases this with rfl | rfl | rfl | rfl | rfl | rfl | rfl <;> omega
  · rcases this with rfl | rfl | rfl | rfl | rfl | rfl | rfl <;> omega
  · rcases this with rfl | rfl | rfl | rfl | rfl | rfl | rfl <;> omega

theorem Cal.ok_bd {c : Cal} (h : c.ok = true) : (-65536000 ≤ c.m.sx ∧ c.m.sx ≤ 65536000) ∧ (-65536000 ≤ c.m.sy ∧ c.m.sy ≤ 65536000) ∧ (0 ≤ c.stx ∧ c.stx ≤ 8192000) ∧ (0 ≤ c.sty ∧ c.sty ≤ 8192000) := by
  simp only [Cal.ok, Bod.ok, Cal.body, Mov.ok, sqB, Bool.and_eq_true, wB_iff] at h
  omega

theorem sbody_x (team n ax ay sx sy spin stx sty : Int) (bv : Value) (w : World) :
    Calls Try.prog 34 #[.agg #[.int .i64 team, .int .i64 n, .int .i64 ax, .int .i64 ay, .int .i64 sx, .int .i64 sy, .int .i64 spin, bv, .int .i64 stx, .int .i64 sty]] w
      fun e w' => e = .returned (.agg #[.int .i64 team, .int .i64 n, .int .i64 ax, .int .i64 ay, .int .i64 sx, .int .i64 sy, .int .i64 spin, .bool false]) ∧ Below w.heap.size w w' :=
  sbody_c ⟨team, n, ⟨ax, ay, sx, sy, spin⟩, [], stx, sty⟩ bv w

set_option maxHeartbeats 1000000 in
/-- skill.shot.throw, up to its need. -/
theorem sthrow_c (c : Cal) (bv : Value) (miss : Int) (w : World) (hc : c.ok = true) (hl : Brms w bv c.l) (h0 : 0 ≤ miss) (h1 : miss ≤ 48) (k : Bool) (hk : (c.thrown miss).ok = k) :
    Calls Try.prog 28 #[.agg (c.cells bv), .int .i64 miss] w fun e w' => (k = true → e = .returned (.agg (c.thrown miss).cells)) ∧ (k = false → e = .panicked (skPanic 4)) ∧ Below w.heap.size w w' := by
  obtain ⟨⟨b1, b2⟩, ⟨b3, b4⟩, ⟨b5, b6⟩, b7, b8⟩ := Cal.ok_bd hc
  obtain ⟨q, cap, rfl⟩ := hl.shape
  clear hl hc
  obtain ⟨team, n, ⟨ax, ay, sx, sy, spin⟩, l, stx, sty⟩ := c
  simp only at b1 b2 b3 b4 b5 b6 b7 b8
  obtain ⟨p1, w1, g1, g2, HP1⟩ := small_mul (n := miss % 7 - 3) (x := stx) (by omega) (by omega) b5 b6
  obtain ⟨p2, w2, g3, g4, HP2⟩ := small_mul (n := miss / 7 - 3) (x := sty) (by omega) (by omega) b7 b8
  have ht : Cal.thrown ⟨team, n, ⟨ax, ay, sx, sy, spin⟩, l, stx, sty⟩ miss = ⟨team, n, ⟨ax, ay, sx + p1, sy + p2, spin⟩, false⟩ := by
    unfold Cal.thrown; simp only; rw [HP1.out, HP2.out]
  rw [ht] at hk ⊢
  have HK := Hid.mk' hk
  clear hk ht HP1 HP2
  unfold Cal.cells
  simp only
  cases k
  · go_enter Try.func28, Try.ntmps28
    go_wp2_with (first
      | (go_at_call 34; refine (sbody_x team n ax ay sx sy spin stx sty _ _).mono ?_; rintro e wa ⟨rfl, hb1⟩; obtain ⟨hc1, hc2, hf1, hf2, hz⟩ := two_new hb1; have hbw : Below w.heap.size w wa := (((Below.refl _ _).alloc (Nat.le_refl _) _).alloc (by simp) _).trans (hb1.mono (by simp <;> omega)); have s8 := hc1 8; have s9 := hc1 9; have hz0 : w.heap.size < wa.heap.size := (by omega); have HC2 := Hid.mk' hc2; have HF2 := Hid.mk' hf2; clear hc1 hc2 hf1 hf2)
      | (go_at_call 33; refine (svalid_c ⟨team, n, ⟨ax, ay, sx + p1, sy + p2, spin⟩, false⟩ _ rfl).mono ?_; rintro e wb ⟨rfl, hb2⟩; rw [HK.out]; obtain ⟨hd, hdf, hdz, hdw⟩ := one_new hb2; have r0 := (hdw.cell (p := ⟨w.heap.size + 1, 0, none⟩) hz).trans (HC2.out 0); have e0 := hd 0; have r1 := (hdw.cell (p := ⟨w.heap.size + 1, 1, none⟩) hz).trans (HC2.out 1); have e1 := hd 1; have r2 := (hdw.cell (p := ⟨w.heap.size + 1, 2, none⟩) hz).trans (HC2.out 2); have e2 := hd 2; have r3 := (hdw.cell (p := ⟨w.heap.size + 1, 3, none⟩) hz).trans (HC2.out 3); have e3 := hd 3; have r4 := (hdw.cell (p := ⟨w.heap.size + 1, 4, none⟩) hz).trans (HC2.out 4); have e4 := hd 4; have r5 := (hdw.cell (p := ⟨w.heap.size + 1, 5, none⟩) hz).trans (HC2.out 5); have e5 := hd 5; have r6 := (hdw.cell (p := ⟨w.heap.size + 1, 6, none⟩) hz).trans (HC2.out 6); have e6 := hd 6; have r7 := (hdw.cell (p := ⟨w.heap.size + 1, 7, none⟩) hz).trans (HC2.out 7); have e7 := hd 7; have rf0 := (hdw.frozen (p := ⟨w.heap.size + 1, 0, none⟩) hz).trans (HF2.out 0); have rf1 := (hdw.frozen (p := ⟨w.heap.size + 1, 1, none⟩) hz).trans (HF2.out 1); have rf2 := (hdw.frozen (p := ⟨w.heap.size + 1, 2, none⟩) hz).trans (HF2.out 2); have rf3 := (hdw.frozen (p := ⟨w.heap.size + 1, 3, none⟩) hz).trans (HF2.out 3); have rf4 := (hdw.frozen (p := ⟨w.heap.size + 1, 4, none⟩) hz).trans (HF2.out 4); have rf5 := (hdw.frozen (p := ⟨w.heap.size + 1, 5, none⟩) hz).trans (HF2.out 5); have rf6 := (hdw.frozen (p := ⟨w.heap.size + 1, 6, none⟩) hz).trans (HF2.out 6); have rf7 := (hdw.frozen (p := ⟨w.heap.size + 1, 7, none⟩) hz).trans (HF2.out 7); clear hd hdf)
      | (go_at_call 52; with_reducible refine (sneed_yes _ _).mono ?_; rintro e w' ⟨rfl, rfl⟩)
      | (go_at_call 52; with_reducible refine (sneed_no _ _).mono ?_; rintro e w' ⟨rfl, rfl⟩))
    exact ⟨rfl, (fun h => by cases h), fun _ => rfl, hbw.trans (hdw.mono hbw.size)⟩
  · go_enter Try.func28, Try.ntmps28
    go_wp2_with (first
      | (go_at_call 34; refine (sbody_x team n ax ay sx sy spin stx sty _ _).mono ?_; rintro e wa ⟨rfl, hb1⟩; obtain ⟨hc1, hc2, hf1, hf2, hz⟩ := two_new hb1; have hbw : Below w.heap.size w wa := (((Below.refl _ _).alloc (Nat.le_refl _) _).alloc (by simp) _).trans (hb1.mono (by simp <;> omega)); have s8 := hc1 8; have s9 := hc1 9; have hz0 : w.heap.size < wa.heap.size := (by omega); have HC2 := Hid.mk' hc2; have HF2 := Hid.mk' hf2; clear hc1 hc2 hf1 hf2)
      | (go_at_call 33; refine (svalid_c ⟨team, n, ⟨ax, ay, sx + p1, sy + p2, spin⟩, false⟩ _ rfl).mono ?_; rintro e wb ⟨rfl, hb2⟩; rw [HK.out]; obtain ⟨hd, hdf, hdz, hdw⟩ := one_new hb2; have r0 := (hdw.cell (p := ⟨w.heap.size + 1, 0, none⟩) hz).trans (HC2.out 0); have e0 := hd 0; have r1 := (hdw.cell (p := ⟨w.heap.size + 1, 1, none⟩) hz).trans (HC2.out 1); have e1 := hd 1; have r2 := (hdw.cell (p := ⟨w.heap.size + 1, 2, none⟩) hz).trans (HC2.out 2); have e2 := hd 2; have r3 := (hdw.cell (p := ⟨w.heap.size + 1, 3, none⟩) hz).trans (HC2.out 3); have e3 := hd 3; have r4 := (hdw.cell (p := ⟨w.heap.size + 1, 4, none⟩) hz).trans (HC2.out 4); have e4 := hd 4; have r5 := (hdw.cell (p := ⟨w.heap.size + 1, 5, none⟩) hz).trans (HC2.out 5); have e5 := hd 5; have r6 := (hdw.cell (p := ⟨w.heap.size + 1, 6, none⟩) hz).trans (HC2.out 6); have e6 := hd 6; have r7 := (hdw.cell (p := ⟨w.heap.size + 1, 7, none⟩) hz).trans (HC2.out 7); have e7 := hd 7; have rf0 := (hdw.frozen (p := ⟨w.heap.size + 1, 0, none⟩) hz).trans (HF2.out 0); have rf1 := (hdw.frozen (p := ⟨w.heap.size + 1, 1, none⟩) hz).trans (HF2.out 1); have rf2 := (hdw.frozen (p := ⟨w.heap.size + 1, 2, none⟩) hz).trans (HF2.out 2); have rf3 := (hdw.frozen (p := ⟨w.heap.size + 1, 3, none⟩) hz).trans (HF2.out 3); have rf4 := (hdw.frozen (p := ⟨w.heap.size + 1, 4, none⟩) hz).trans (HF2.out 4); have rf5 := (hdw.frozen (p := ⟨w.heap.size + 1, 5, none⟩) hz).trans (HF2.out 5); have rf6 := (hdw.frozen (p := ⟨w.heap.size + 1, 6, none⟩) hz).trans (HF2.out 6); have rf7 := (hdw.frozen (p := ⟨w.heap.size + 1, 7, none⟩) hz).trans (HF2.out 7); clear hd hdf)
      | (go_at_call 52; with_reducible refine (sneed_yes _ _).mono ?_; rintro e w' ⟨rfl, rfl⟩)
      | (go_at_call 52; with_reducible refine (sneed_no _ _).mono ?_; rintro e w' ⟨rfl, rfl⟩))
    refine bodyPost_ret (v := .agg #[.int .i64 team, .int .i64 n, .int .i64 ax, .int .i64 ay, .int .i64 (sx + p1), .int .i64 (sy + p2), .int .i64 spin, .bool false]) ?_ rfl ⟨fun _ => rfl, (fun h => (by cases h)), ?_⟩
    · simp [results, Try.results28, go_sem, r0, r1, r2, r3, r4, r5, r6, r7]
    · have hb := hbw.trans (hdw.mono hbw.size)
      repeat (refine Below.setCell ?_ (by show w.heap.size ≤ w.heap.size + 1; omega) _)
      exact hb
end Go.Proofs.Ytleceelemogbcaa

/- Package skill: Throw. -/
namespace Go.Proofs.Ytleceelemogbcaa
open Go.RowKit

/-- A body of zeros. -/
def bod0 : Bod := ⟨0, 0, ⟨0, 0, 0, 0, 0⟩, false⟩

/-- Block D holds a body, and may be written. -/
def Holds (D : Nat) (b : Bod) (w : World) : Prop := (∀ i, w.cell? ⟨D, i, none⟩ = b.cells[i]?) ∧ (∀ i, w.frozen? ⟨D, i, none⟩ = false)

theorem Holds.of_block {D : Nat} {b : Bod} {w w' : World} (h : w'.heap[D]? = w.heap[D]?) (hw : Holds D b w) : Holds D b w' :=
  ⟨fun i => (World.cell?_of_block (w := w) (a := ⟨D, i, none⟩) h).trans (hw.1 i), fun i => (World.frozen?_of_block (w := w) (a := ⟨D, i, none⟩) h).trans (hw.2 i)⟩

theorem frozen_setCell {w : World} {a : Addr} {v : Value} {b : Addr} : (w.setCell a v).frozen? b = w.frozen? b := by
  simp [go_sem]

/-- A body that is stored cell by cell. -/
theorem holds_stored {w : World} {D : Nat} {b0 : Bod} (h : Holds D b0 w) (team n ax ay sx sy spin : Int) (out : Bool) :
    Holds D ⟨team, n, ⟨ax, ay, sx, sy, spin⟩, out⟩ ((((((((w.setCell ⟨D, 0, none⟩ (.int .i64 team)).setCell ⟨D, 1, none⟩ (.int .i64 n)).setCell ⟨D, 2, none⟩ (.int .i64 ax)).setCell ⟨D, 3, none⟩ (.int .i64 ay)).setCell ⟨D, 4, none⟩ (.int .i64 sx)).setCell ⟨D, 5, none⟩ (.int .i64 sy)).setCell ⟨D, 6, none⟩ (.int .i64 spin)).setCell ⟨D, 7, none⟩ (.bool out)) := by
  obtain ⟨h1, h2⟩ := h
  obtain ⟨t0, n0, ⟨ax0, ay0, sx0, sy0, sp0⟩, o0⟩ := b0
  have r0 := h1 0
  have r1 := h1 1
  have r2 := h1 2
  have r3 := h1 3
  have r4 := h1 4
  have r5 := h1 5
  have r6 := h1 6
  have r7 := h1 7
  simp only [Bod.cells, List.getElem?_toArray, List.getElem?_cons_zero, List.getElem?_cons_succ] at r0 r1 r2 r3 r4 r5 r6 r7
  refine ⟨fun i => ?_, fun i => by simp only [frozen_setCell]; exact h2 i⟩
  match i with
  | 0 => simp [go_sem, Bod.cells, r0]
  | 1 => simp [go_sem, Bod.cells, r1]
  | 2 => simp [go_sem, Bod.cells, r2]
  | 3 => simp [go_sem, Bod.cells, r3]
  | 4 => simp [go_sem, Bod.cells, r4]
  | 5 => simp [go_sem, Bod.cells, r5]
  | 6 => simp [go_sem, Bod.cells, r6]
  | 7 => simp [go_sem, Bod.cells, r7]
  | i + 8 =>
    have r8 := h1 (i + 8)
    simp only [Bod.cells] at r8 ⊢
    rw [cell_set_ne _ (by simp), cell_set_ne _ (by simp), cell_set_ne _ (by simp), cell_set_ne _ (by simp), cell_set_ne _ (by simp), cell_set_ne _ (by simp), cell_set_ne _ (by simp), cell_set_ne _ (by simp)]
    rw [r8]; simp

theorem exc_setCell (n D o : Nat) (w : World) (v : Value) : Exc n D w (w.setCell ⟨D, o, none⟩ v) :=
  ⟨rfl, rfl, rfl, by simp [World.setCell], fun _ _ hd => Below.heap_setCell _ _ _ _ hd⟩

theorem exc_stored (n D : Nat) (w : World) (team num ax ay sx sy spin : Int) (out : Bool) :
    Exc n D w ((((((((w.setCell ⟨D, 0, none⟩ (.int .i64 team)).setCell ⟨D, 1, none⟩ (.int .i64 num)).setCell ⟨D, 2, none⟩ (.int .i64 ax)).setCell ⟨D, 3, none⟩ (.int .i64 ay)).setCell ⟨D, 4, none⟩ (.int .i64 sx)).setCell ⟨D, 5, none⟩ (.int .i64 sy)).setCell ⟨D, 6, none⟩ (.int .i64 spin)).setCell ⟨D, 7, none⟩ (.bool out)) :=
  ((((((((exc_setCell n D 0 w _).trans (exc_setCell n D 1 _ _)).trans (exc_setCell n D 2 _ _)).trans (exc_setCell n D 3 _ _)).trans (exc_setCell n D 4 _ _)).trans (exc_setCell n D 5 _ _)).trans (exc_setCell n D 6 _ _)).trans (exc_setCell n D 7 _ _))

set_option maxHeartbeats 1000000 in
theorem throw1_c (b : Nat) (c : Cal) (bv : Value) (miss : Int) (w : World) (hc : c.ok = true) (hl : Brms w bv c.l) (h0 : 0 ≤ miss) (h1 : miss ≤ 48) (k : Bool) (hk : (c.thrown miss).ok = k)
    (hb : b + 2 < w.heap.size) (g0 : ∀ i, w.cell? ⟨b, i, none⟩ = (c.cells bv)[i]?) (g1 : w.cell? ⟨b + 1, 0, none⟩ = some (.int .i64 miss)) (g2 : Holds (b + 2) bod0 w) :
    Calls Try.prog 27 #[.pointer (some ⟨b, 0, none⟩), .pointer (some ⟨b + 1, 0, none⟩), .pointer (some ⟨b + 2, 0, none⟩)] w fun e w' =>
      (k = true → e = .returned (.tuple #[]) ∧ Holds (b + 2) (c.thrown miss) w') ∧ (k = false → e = .panicked (skPanic 4) ∧ Holds (b + 2) bod0 w') ∧ Exc w.heap.size (b + 2) w w' := by
  have HT : Hid (∀ w', Brms w' bv c.l → Calls Try.prog 28 #[.agg (c.cells bv), .int .i64 miss] w' fun e w'' => (k = true → e = .returned (.agg (c.thrown miss).cells)) ∧ (k = false → e = .panicked (skPanic 4)) ∧ Below w'.heap.size w' w'') := fun w' hl => sthrow_c c bv miss w' hc hl h0 h1 k hk
  have HL := Hid.mk' hl
  have HG := Hid.mk' g2
  obtain ⟨q, cap, rfl⟩ := hl.shape
  clear hl hk hc
  obtain ⟨x, hx⟩ : ∃ x, c.thrown miss = x := ⟨_, rfl⟩
  rw [hx] at HT ⊢
  clear hx
  obtain ⟨team, n, ⟨ax, ay, sx, sy, spin⟩, l, stx, sty⟩ := c
  obtain ⟨t0, n0, ⟨ax0, ay0, sx0, sy0, sp0⟩, o0⟩ := x
  simp only [Cal.cells, Bod.cells] at g0 HT HL
  have d0 := g0 0
  have d1 := g0 1
  have d2 := g0 2
  have d3 := g0 3
  have d4 := g0 4
  have d5 := g0 5
  have d6 := g0 6
  have d7 := g0 7
  have d8 := g0 8
  have d9 := g0 9
  clear g0 g2
  cases k
  · go_enter Try.func27, Try.ntmps27
    go_wp2_with (go_at_call 28; refine (HT.out _ HL.out).mono ?_; rintro e w1 ⟨-, hp, hb1⟩; obtain rfl := hp rfl)
    exact ⟨rfl, (fun h => (by cases h)), fun _ => ⟨rfl, HG.out.of_block (hb1.block _ hb)⟩, Exc.of hb1⟩
  · go_enter Try.func27, Try.ntmps27
    go_wp2_with (go_at_call 28; refine (HT.out _ HL.out).mono ?_; rintro e w1 ⟨hp, -, hb1⟩; obtain rfl := hp rfl; have HG1 := Hid.mk' (HG.out.of_block (hb1.block _ hb)); have r0 := HG1.out.1 0; have r1 := HG1.out.1 1; have r2 := HG1.out.1 2; have r3 := HG1.out.1 3; have r4 := HG1.out.1 4; have r5 := HG1.out.1 5; have r6 := HG1.out.1 6; have r7 := HG1.out.1 7; have f0 := HG1.out.2 0; have f1 := HG1.out.2 1; have f2 := HG1.out.2 2; have f3 := HG1.out.2 3; have f4 := HG1.out.2 4; have f5 := HG1.out.2 5; have f6 := HG1.out.2 6; have f7 := HG1.out.2 7; simp only [bod0, Bod.cells, List.getElem?_toArray, List.getElem?_cons_zero, List.getElem?_cons_succ] at r0 r1 r2 r3 r4 r5 r6 r7)
    go_end0
    have hst := holds_stored HG1.out t0 n0 ax0 ay0 sx0 sy0 sp0 o0
    have hex := exc_stored w.heap.size (b + 2) w1 t0 n0 ax0 ay0 sx0 sy0 sp0 o0
    have hex2 := (Exc.of (D := b + 2) hb1).trans hex
    clear hex HG1 r0 r1 r2 r3 r4 r5 r6 r7 f0 f1 f2 f3 f4 f5 f6 f7
    refine ⟨?_, ?_, hex2⟩
    · intro _
      exact ⟨rfl, hst⟩
    · intro h
      cases h
end Go.Proofs.Ytleceelemogbcaa

/- Package skill: Throw. -/
namespace Go.Proofs.Ytleceelemogbcaa
open Go.RowKit

/-- Is what Throw is asked valid? -/
def thOk (c : Cal) (miss : Int) : Bool := c.ok && wB miss 0 48

/-- The body of a miss, or zeros. -/
def thBody (c : Cal) (miss : Int) : Bod := if thOk c miss && (c.thrown miss).ok then c.thrown miss else bod0
/-- Its error. -/
def thErr (c : Cal) (miss : Int) : Int := if thOk c miss then (if (c.thrown miss).ok then 0 else 4) else 2

theorem three_new {w w1 : World} {c1 c2 c3 : Array Value} {t1 t2 t3 : TypeId} (hb : Below (((w.alloc (.cells c1 t1)).alloc (.cells c2 t2)).alloc (.cells c3 t3)).heap.size (((w.alloc (.cells c1 t1)).alloc (.cells c2 t2)).alloc (.cells c3 t3)) w1) :
    (∀ i, w1.cell? ⟨w.heap.size, i, none⟩ = c1[i]?) ∧ (∀ i, w1.cell? ⟨w.heap.size + 1, i, none⟩ = c2[i]?) ∧ (∀ i, w1.cell? ⟨w.heap.size + 2, i, none⟩ = c3[i]?) ∧ (∀ i, w1.frozen? ⟨w.heap.size + 2, i, none⟩ = false) ∧ w.heap.size + 2 < w1.heap.size ∧ Below w.heap.size w w1 := by
  have hs := hb.size
  simp at hs
  refine ⟨fun i => ?_, fun i => ?_, fun i => ?_, fun i => ?_, by omega, ((((Below.refl _ _).alloc (Nat.le_refl _) _).alloc (by simp) _).alloc (by simp <;> omega) _).trans (hb.mono (by simp <;> omega))⟩
  · rw [hb.cell (p := ⟨w.heap.size, i, none⟩) (by simp <;> omega)]; simp [go_sem]
  · rw [hb.cell (p := ⟨w.heap.size + 1, i, none⟩) (by simp <;> omega)]; simp [go_sem]
  · rw [hb.cell (p := ⟨w.heap.size + 2, i, none⟩) (by simp <;> omega)]; simp [go_sem]
  · rw [hb.frozen (p := ⟨w.heap.size + 2, i, none⟩) (by simp <;> omega)]; simp [go_sem]

set_option maxHeartbeats 2000000 in
theorem throw_c (c : Cal) (bv : Value) (miss : Int) (w : World) (hl : Brms w bv c.l) :
    Calls Try.prog 8 #[.agg (c.cells bv), .int .i64 miss] w fun e w' => e = .returned (.tuple #[.agg (thBody c miss).cells, .int .i64 (thErr c miss)]) ∧ Below w.heap.size w w' := by
  have HL : Hid (∀ w', Below w.heap.size w w' → Brms w' bv c.l) := fun w' hb => hl.below hb (Nat.le_refl _)
  obtain ⟨q, cap, rfl⟩ := hl.shape
  clear hl
  cases e1 : c.ok
  case false =>
    have hB : thBody c miss = bod0 := by simp [thBody, thOk, e1]
    have hE : thErr c miss = 2 := by simp [thErr, thOk, e1]
    rw [hB, hE]
    have HC : Hid (∀ w', Below w.heap.size w w' → Calls Try.prog 10 #[.agg (c.cells (.slice q c.l.length cap))] w' fun e w'' => e = .returned (.int .i64 2) ∧ Below w'.heap.size w' w'') := fun w' hb => by
      have := checkCall_c c _ w' (HL.out w' hb); rw [e1] at this; exact this
    clear hB hE e1 HL
    obtain ⟨team, n, ⟨ax, ay, sx, sy, spin⟩, l, stx, sty⟩ := c
    simp only [Cal.cells] at HC ⊢
    go_enter Try.func8, Try.ntmps8
    go_wp2_with (go_at_call 10; refine (HC.out _ ((((Below.refl _ _).alloc (Nat.le_refl _) _).alloc (by simp) _).alloc (by simp <;> omega) _)).mono ?_; rintro e w1 ⟨rfl, hb1⟩; obtain ⟨hc1, hc2, hc3, hf3, hz, hbw⟩ := three_new hb1; have m0 := hc2 0; have r0 := hc3 0; have r1 := hc3 1; have r2 := hc3 2; have r3 := hc3 3; have r4 := hc3 4; have r5 := hc3 5; have r6 := hc3 6; have r7 := hc3 7; have f0 := hf3 0; have f1 := hf3 1; have f2 := hf3 2; have f3 := hf3 3; have f4 := hf3 4; have f5 := hf3 5; have f6 := hf3 6; have f7 := hf3 7; have HC1 := Hid.mk' hc1; have HC3 := Hid.mk' hc3; have HF3 := Hid.mk' hf3; have HM := Hid.mk' m0; clear hc1 hc3 hf3)
    refine bodyPost_ret (v := .tuple #[.agg #[.int .i64 0, .int .i64 0, .int .i64 0, .int .i64 0, .int .i64 0, .int .i64 0, .int .i64 0, .bool false], .int .i64 2]) (by simp [results, Try.results8, go_sem, r0, r1, r2, r3, r4, r5, r6, r7]) rfl ⟨rfl, ?_⟩
    repeat (refine Below.setCell ?_ (by show w.heap.size ≤ w.heap.size + 2; omega) _)
    exact hbw
  have HC : Hid (∀ w', Below w.heap.size w w' → Calls Try.prog 10 #[.agg (c.cells (.slice q c.l.length cap))] w' fun e w'' => e = .returned (.int .i64 0) ∧ Below w'.heap.size w' w'') := fun w' hb => by
    have := checkCall_c c _ w' (HL.out w' hb); rw [e1] at this; exact this
  cases e2 : wB miss 0 48
  case false =>
    have hB : thBody c miss = bod0 := by simp [thBody, thOk, e2]
    have hE : thErr c miss = 2 := by simp [thErr, thOk, e2]
    rw [hB, hE]
    have H2 := Hid.mk' e2
    clear hB hE e1 e2 HL
    obtain ⟨team, n, ⟨ax, ay, sx, sy, spin⟩, l, stx, sty⟩ := c
    simp only [Cal.cells] at HC ⊢
    go_enter Try.func8, Try.ntmps8
    go_wp2_with (first
      | (go_at_call 10; refine (HC.out _ ((((Below.refl _ _).alloc (Nat.le_refl _) _).alloc (by simp) _).alloc (by simp <;> omega) _)).mono ?_; rintro e w1 ⟨rfl, hb1⟩; obtain ⟨hc1, hc2, hc3, hf3, hz, hbw⟩ := three_new hb1; have m0 := hc2 0; have r0 := hc3 0; have r1 := hc3 1; have r2 := hc3 2; have r3 := hc3 3; have r4 := hc3 4; have r5 := hc3 5; have r6 := hc3 6; have r7 := hc3 7; have f0 := hf3 0; have f1 := hf3 1; have f2 := hf3 2; have f3 := hf3 3; have f4 := hf3 4; have f5 := hf3 5; have f6 := hf3 6; have f7 := hf3 7; have HC1 := Hid.mk' hc1; have HC3 := Hid.mk' hc3; have HF3 := Hid.mk' hf3; have HM := Hid.mk' m0; clear hc1 hc3 hf3)
      | (go_at_call 25; refine (within_c _ _ _ _).mono ?_; rintro e w' ⟨rfl, rfl⟩; rw [H2.out]))
    refine bodyPost_ret (v := .tuple #[.agg #[.int .i64 0, .int .i64 0, .int .i64 0, .int .i64 0, .int .i64 0, .int .i64 0, .int .i64 0, .bool false], .int .i64 2]) (by simp [results, Try.results8, go_sem, r0, r1, r2, r3, r4, r5, r6, r7]) rfl ⟨rfl, ?_⟩
    repeat (refine Below.setCell ?_ (by show w.heap.size ≤ w.heap.size + 2; omega) _)
    exact hbw
  have H2 := Hid.mk' e2
  obtain ⟨m1, m2⟩ := (wB_iff _ _ _).1 e2
  have hth : thOk c miss = true := by simp [thOk, e1, e2]
  have HE1 := Hid.mk' e1
  have HTRY : Hid (∀ w1, Below w.heap.size w w1 → w.heap.size + 2 < w1.heap.size → (∀ i, w1.cell? ⟨w.heap.size, i, none⟩ = (c.cells (.slice q c.l.length cap))[i]?) → w1.cell? ⟨w.heap.size + 1, 0, none⟩ = some (.int .i64 miss) → Holds (w.heap.size + 2) bod0 w1 →
      Calls Try.prog 26 #[.func (.func 27) #[] #[.pointer (some ⟨w.heap.size, 0, none⟩), .pointer (some ⟨w.heap.size + 1, 0, none⟩), .pointer (some ⟨w.heap.size + 2, 0, none⟩)]] w1 fun e w' => e = .returned (.int .i64 (thErr c miss)) ∧ Exc w1.heap.size (w.heap.size + 2) w1 w' ∧ Holds (w.heap.size + 2) (thBody c miss) w') := by
    intro w1 hb1 hz hc1 hm hh
    have hen : ∀ args w, (callFunc 27 args).run Try.prog w = .ok (.enter 27 args) w := enters_of Try.func27 (by kernel_rfl) rfl
    cases hk : (c.thrown miss).ok
    · have hB : thBody c miss = bod0 := by unfold thBody; rw [hk, Bool.and_false]; rfl
      have hE : thErr c miss = 4 := by unfold thErr; rw [hth, hk]; rfl
      rw [hB, hE]
      refine stried_err 27 _ (w.heap.size + 2) 4 (Holds (w.heap.size + 2) bod0) hen w1 hz (fun a b h => Holds.of_block h) fun w2 hb2 => ?_
      refine (throw1_c w.heap.size c (.slice q c.l.length cap) miss w2 HE1.out (HL.out _ (hb1.trans (hb2.mono hb1.size))) m1 m2 false hk (Nat.lt_of_lt_of_le hz hb2.size) (cells_kept hc1 hb2 (by omega)) ((hb2.cell (p := ⟨w.heap.size + 1, 0, none⟩) (by show w.heap.size + 1 < _; omega)).trans hm) (hh.of_block (hb2.block _ hz))).mono ?_
      rintro e w3 ⟨-, h3, h4⟩
      exact ⟨(h3 rfl).1, h4, (h3 rfl).2⟩
    · have hB : thBody c miss = c.thrown miss := by unfold thBody; rw [hk, hth]; rfl
      have hE : thErr c miss = 0 := by unfold thErr; rw [hth, hk]; rfl
      rw [hB, hE]
      refine stried_ok 27 _ (w.heap.size + 2) (Holds (w.heap.size + 2) (c.thrown miss)) hen w1 hz (fun a b h => Holds.of_block h) fun w2 hb2 => ?_
      refine (throw1_c w.heap.size c (.slice q c.l.length cap) miss w2 HE1.out (HL.out _ (hb1.trans (hb2.mono hb1.size))) m1 m2 true hk (Nat.lt_of_lt_of_le hz hb2.size) (cells_kept hc1 hb2 (by omega)) ((hb2.cell (p := ⟨w.heap.size + 1, 0, none⟩) (by show w.heap.size + 1 < _; omega)).trans hm) (hh.of_block (hb2.block _ hz))).mono ?_
      rintro e w3 ⟨h3, -, h4⟩
      exact ⟨(h3 rfl).1, h4, (h3 rfl).2⟩
  clear hth e1 e2 HL HE1 m1 m2
  generalize thErr c miss = E at *
  generalize thBody c miss = X at *
  obtain ⟨team, n, ⟨ax, ay, sx, sy, spin⟩, l, stx, sty⟩ := c
  obtain ⟨t0, n0, ⟨ax0, ay0, sx0, sy0, sp0⟩, o0⟩ := X
  have hmf : ∀ (fn : Fn) (first cap : Array Value) (w : World), (Instr.makeFunc fn first cap).run Try.prog w = .ok (.func fn first cap) w := fun _ _ _ _ => rfl
  simp only [Cal.cells, Bod.cells] at HC HTRY ⊢
  go_enter Try.func8, Try.ntmps8
  go_wp2_with (first
    | (go_at_call 10; refine (HC.out _ ((((Below.refl _ _).alloc (Nat.le_refl _) _).alloc (by simp) _).alloc (by simp <;> omega) _)).mono ?_; rintro e w1 ⟨rfl, hb1⟩; obtain ⟨hc1, hc2, hc3, hf3, hz, hbw⟩ := three_new hb1; have m0 := hc2 0; have r0 := hc3 0; have r1 := hc3 1; have r2 := hc3 2; have r3 := hc3 3; have r4 := hc3 4; have r5 := hc3 5; have r6 := hc3 6; have r7 := hc3 7; have f0 := hf3 0; have f1 := hf3 1; have f2 := hf3 2; have f3 := hf3 3; have f4 := hf3 4; have f5 := hf3 5; have f6 := hf3 6; have f7 := hf3 7; have HC1 := Hid.mk' hc1; have HC3 := Hid.mk' hc3; have HF3 := Hid.mk' hf3; have HM := Hid.mk' m0; clear hc1 hc3 hf3)
    | (go_at_call 25; refine (within_c _ _ _ _).mono ?_; rintro e w' ⟨rfl, rfl⟩; rw [H2.out])
    | (go_at_call 26; refine (HTRY.out _ hbw hz HC1.out HM.out ⟨HC3.out, HF3.out⟩).mono ?_; rintro e w2 ⟨rfl, hx2, hh2⟩; clear r0 r1 r2 r3 r4 r5 r6 r7 f0 f1 f2 f3 f4 f5 f6 f7 m0; have r0 := hh2.1 0; have r1 := hh2.1 1; have r2 := hh2.1 2; have r3 := hh2.1 3; have r4 := hh2.1 4; have r5 := hh2.1 5; have r6 := hh2.1 6; have r7 := hh2.1 7; have f0 := hh2.2 0; have f1 := hh2.2 1; have f2 := hh2.2 2; have f3 := hh2.2 3; have f4 := hh2.2 4; have f5 := hh2.2 5; have f6 := hh2.2 6; have f7 := hh2.2 7; simp only [Bod.cells, List.getElem?_toArray, List.getElem?_cons_zero, List.getElem?_cons_succ] at r0 r1 r2 r3 r4 r5 r6 r7))
  refine bodyPost_ret (v := .tuple #[.agg #[.int .i64 t0, .int .i64 n0, .int .i64 ax0, .int .i64 ay0, .int .i64 sx0, .int .i64 sy0, .int .i64 sp0, .bool o0], .int .i64 E]) (by simp [results, Try.results8, go_sem, r0, r1, r2, r3, r4, r5, r6, r7]) rfl ⟨rfl, ?_⟩
  have hxb : Below w.heap.size w w2 := hbw.trans ((hx2.mono hbw.size).below (by omega))
  repeat (refine Below.setCell ?_ (by show w.heap.size ≤ w.heap.size + 2; omega) _)
  exact hxb
end Go.Proofs.Ytleceelemogbcaa

/- Package skill: the least and the greatest of values, mean, Mean. -/
namespace Go.Proofs.Ytleceelemogbcaa
open Go.RowKit

/-- The least of the first ones. -/
def minTo (xs : List Int) : Nat → Int
  | 0 => nth xs 0
  | k + 1 => min (minTo xs k) (nth xs (k + 1))

theorem minTo_bd {xs : List Int} {lo hi : Int} {n : Nat} (h : ∀ j, j < n → lo ≤ nth xs j ∧ nth xs j ≤ hi) : ∀ k, k < n → lo ≤ minTo xs k ∧ minTo xs k ≤ hi
  | 0, hk => h 0 hk
  | k + 1, hk => by
    have a := minTo_bd h k (by omega)
    have b := h (k + 1) hk
    simp only [minTo]
    omega

set_option maxHeartbeats 1000000 in
theorem minFix_c (xs : List Int) (v : Value) (w : World) (hv : Ints w v xs) (h0 : 0 < xs.length) :
    Calls Try.prog 44 #[v] w fun e w' => e = .returned (.int .i64 (minTo xs (xs.length - 1))) ∧ w = w' := by
  rcases hv with ⟨q, cap, rfl, rfl⟩ | ⟨b, off, cap, rfl, -, h1, h2, h3⟩
  · simp at h0
  · have H2 : Hid (∀ i, i < xs.length → w.cell? ⟨b, off + i, none⟩ = some (.int .i64 (nth xs i))) := h2
    have hc0 := h2 0 h0
    rw [Nat.add_zero] at hc0
    clear h2 h3
    generalize xs.length = n at *
    obtain ⟨m, rfl⟩ : ∃ m, n = m + 1 := ⟨n - 1, by omega⟩
    rw [Nat.add_sub_cancel]
    have HM0 : Hid (minTo xs 0 = nth xs 0) := rfl
    generalize nth xs 0 = x0 at *
    go_enter Try.func44, Try.ntmps44
    go_wp2_with fail
    go_loop [3, 4] (fun s i => ∃ k : Nat, k ≤ m ∧ i = .int .i64 (k + 1 : Nat) ∧ s = .int .i64 (minTo xs k)) (fun _ i => m + 1 - (intOf i).toNat)
    case atStart => exact ⟨0, Nat.zero_le _, rfl, by rw [HM0.out]⟩
    case round =>
      obtain ⟨k, hk, rfl, rfl⟩ := hrel
      by_cases hlt : k < m
      · have hc := H2.out (k + 1) (by omega)
        have HE : Hid (minTo xs (k + 1) = min (minTo xs k) (nth xs (k + 1))) := rfl
        generalize minTo xs k = s at *
        generalize nth xs (k + 1) = x at *
        go_wp2_with fail
        go_round
        case rel => exact ⟨k + 1, by omega, by go_num, by rw [HE.out]⟩
        case measure => simp [intOf]; omega
      · obtain rfl : k = m := by omega
        go_wp2_with fail
        go_ret
        exact ⟨rfl, rfl⟩

/-- The greatest of the first ones. -/
def maxTo (xs : List Int) : Nat → Int
  | 0 => nth xs 0
  | k + 1 => max (maxTo xs k) (nth xs (k + 1))

theorem maxTo_bd {xs : List Int} {lo hi : Int} {n : Nat} (h : ∀ j, j < n → lo ≤ nth xs j ∧ nth xs j ≤ hi) : ∀ k, k < n → lo ≤ maxTo xs k ∧ maxTo xs k ≤ hi
  | 0, hk => h 0 hk
  | k + 1, hk => by
    have a := maxTo_bd h k (by omega)
    have b := h (k + 1) hk
    simp only [maxTo]
    omega

set_option maxHeartbeats 1000000 in
theorem maxFix_c (xs : List Int) (v : Value) (w : World) (hv : Ints w v xs) (h0 : 0 < xs.length) :
    Calls Try.prog 45 #[v] w fun e w' => e = .returned (.int .i64 (maxTo xs (xs.length - 1))) ∧ w = w' := by
  rcases hv with ⟨q, cap, rfl, rfl⟩ | ⟨b, off, cap, rfl, -, h1, h2, h3⟩
  · simp at h0
  · have H2 : Hid (∀ i, i < xs.length → w.cell? ⟨b, off + i, none⟩ = some (.int .i64 (nth xs i))) := h2
    have hc0 := h2 0 h0
    rw [Nat.add_zero] at hc0
    clear h2 h3
    generalize xs.length = n at *
    obtain ⟨m, rfl⟩ : ∃ m, n = m + 1 := ⟨n - 1, by omega⟩
    rw [Nat.add_sub_cancel]
    have HM0 : Hid (maxTo xs 0 = nth xs 0) := rfl
    generalize nth xs 0 = x0 at *
    go_enter Try.func45, Try.ntmps45
    go_wp2_with fail
    go_loop [3, 4] (fun s i => ∃ k : Nat, k ≤ m ∧ i = .int .i64 (k + 1 : Nat) ∧ s = .int .i64 (maxTo xs k)) (fun _ i => m + 1 - (intOf i).toNat)
    case atStart => exact ⟨0, Nat.zero_le _, rfl, by rw [HM0.out]⟩
    case round =>
      obtain ⟨k, hk, rfl, rfl⟩ := hrel
      by_cases hlt : k < m
      · have hc := H2.out (k + 1) (by omega)
        have HE : Hid (maxTo xs (k + 1) = max (maxTo xs k) (nth xs (k + 1))) := rfl
        generalize maxTo xs k = s at *
        generalize nth xs (k + 1) = x at *
        go_wp2_with fail
        go_round
        case rel => exact ⟨k + 1, by omega, by go_num, by rw [HE.out]⟩
        case measure => simp [intOf]; omega
      · obtain rfl : k = m := by omega
        go_wp2_with fail
        go_ret
        exact ⟨rfl, rfl⟩

theorem mean1_c (x : Int) (w : World) : Calls Try.prog 41 #[.int .i64 x] w fun e w' => e = .returned (.bool (!wB x (-68719476736) 68719476736)) ∧ w = w' := by
  cases h : wB x (-68719476736) 68719476736
  all_goals
    have H : Hid (wB x (-68719476736) 68719476736 = _) := h
    clear h
    go_enter Try.func41, Try.ntmps41
    go_wp2_with (go_at_call 36; refine (withinFix_c _ _ _ _).mono ?_; rintro e w' ⟨rfl, rfl⟩; rw [H.out])
    go_ret
    exact ⟨rfl, rfl⟩

theorem mean1_pure (xs : List Int) : PureFn 41 #[] xs (fun x => !wB x (-68719476736) 68719476736) :=
  ⟨enters_of Try.func41 (by kernel_rfl) rfl, fun x _ w => mean1_c x w⟩

/-- The sum of values, each as often as its outcome was. -/
def wsum (cs vs : List Int) (k : Nat) : Int := sumTo (fun i => nth cs i * nth vs i) k

theorem mul_bd {n x N X : Int} (h0 : 0 ≤ n) (h1 : n ≤ N) (h2 : -X ≤ x) (h3 : x ≤ X) : -(N * X) ≤ n * x ∧ n * x ≤ N * X := by
  have hX : 0 ≤ X := by omega
  have a : n * x ≤ N * X := Int.le_trans (Int.mul_le_mul_of_nonneg_left h3 h0) (Int.mul_le_mul_of_nonneg_right h1 hX)
  have b : n * (-x) ≤ N * X := Int.le_trans (Int.mul_le_mul_of_nonneg_left (show -x ≤ X by omega) h0) (Int.mul_le_mul_of_nonneg_right h1 hX)
  rw [Int.mul_neg] at b
  omega

theorem sumTo_abs {f : Nat → Int} {M : Int} {n : Nat} (h : ∀ j, j < n → -M ≤ f j ∧ f j ≤ M) : ∀ k, k ≤ n → -(M * k) ≤ sumTo f k ∧ sumTo f k ≤ M * k
  | 0, _ => by simp [sumTo]
  | k + 1, hk => by
    obtain ⟨a, b⟩ := sumTo_abs h k (by omega)
    obtain ⟨c, d⟩ := h k (by omega)
    have e : M * ((k + 1 : Nat) : Int) = M * k + M := by rw [Int.natCast_add, Int.mul_add]; simp
    rw [e]
    simp only [sumTo]
    omega

/-- A product that fits. -/
theorem prod_fits {n x : Int} (h0 : 0 ≤ n) (h1 : n ≤ 1000000) (h2 : -68719476736 ≤ x) (h3 : x ≤ 68719476736) :
    ∃ p, IntKind.i64.wrap (n * x) = p ∧ -68719476736000000 ≤ p ∧ p ≤ 68719476736000000 ∧ Hid (n * x = p) := by
  obtain ⟨a, b⟩ := mul_bd h0 h1 h2 h3
  refine ⟨n * x, ?_, by omega, by omega, rfl⟩
  generalize n * x = k at *
  rw [IntKind.wrap_i64]
  omega

/-- The value with the doubt's, and all others. -/
def totalI (cs vs : List Int) (d x : Int) : Int := d * x + wsum cs vs cs.length

set_option maxHeartbeats 1000000 in
theorem meanf_c (cs vs : List Int) (d x how : Int) (K : FuncId) (v u : Value) (w : World) (hv : Ints w v cs) (hu : Ints w u vs) (hen : ∀ args w, (callFunc K args).run Try.prog w = .ok (.enter K args) w)
    (hK : Calls Try.prog K #[u] w fun e w' => e = .returned (.int .i64 x) ∧ w = w') (hc : countB cs = true) (hl : vs.length = cs.length) (hvs : ∀ j, j < vs.length → -68719476736 ≤ nth vs j ∧ nth vs j ≤ 68719476736)
    (hd1 : 1 ≤ d) (hd2 : d ≤ 1000) (hx : -68719476736 ≤ x ∧ x ≤ 68719476736) (hh : how = 1 ∨ how = 2) :
    Calls Try.prog 43 #[v, u, .int .i64 d, .func (.func K) #[] #[], .int .i64 how] w fun e w' => e = .returned (.int .i64 (rndQ how (totalI cs vs d x) (sumI cs + d))) ∧ Below w.heap.size w w' := by
  have HV : Hid (Ints w v cs) := hv
  obtain ⟨⟨n1, n2⟩, -⟩ := (countB_iff cs).1 hc
  obtain ⟨hs1, hs2⟩ := sum_bd n2 (countB_bd hc)
  have HC : Hid (∀ j, j < cs.length → 0 ≤ nth cs j ∧ nth cs j ≤ 1000000) := countB_bd hc
  have HSC : Hid (Calls Try.prog 40 #[v] w fun e w' => e = .returned (.int .i64 (sumI cs)) ∧ w = w') := sum_c cs v w hv n2 (countB_bd hc)
  have HB : Hid (∀ k, k ≤ cs.length → -(68719476736000000 * (k : Int)) ≤ wsum cs vs k ∧ wsum cs vs k ≤ 68719476736000000 * k) := by
    refine sumTo_abs (n := cs.length) fun j hj => ?_
    obtain ⟨a, b⟩ := countB_bd hc j hj
    obtain ⟨e, f⟩ := hvs j (by omega)
    have := mul_bd a b e f
    omega
  have HVS : Hid (∀ j, j < vs.length → -68719476736 ≤ nth vs j ∧ nth vs j ≤ 68719476736) := hvs
  obtain ⟨dx, ew, e1, e2, HDX⟩ := prod_fits (show 0 ≤ d by omega) (show d ≤ 1000000 by omega) hx.1 hx.2
  have HSH : Hid (∀ a b, 0 < b → b ≤ 2147483648 → -4611686018427387904 ≤ a → a ≤ 4611686018427387904 → ∀ w, Calls Try.prog 65 #[.int .i64 a, .int .i64 b, .int .i64 how] w fun e w' => e = .returned (.tuple #[.int .i64 (rndQ how a b), .int .i64 0]) ∧ Below w.heap.size w w') := fun a b h1 h2 h3 h4 w => share_c a b how w hh h1 h2 h3 h4
  have HKK : Hid (Calls Try.prog K #[u] w fun e w' => e = .returned (.int .i64 x) ∧ w = w') := hK
  have hcall : ∀ w, (callFunc K #[u]).run Try.prog w = .ok (.enter K #[u]) w := fun w => hen _ w
  have HT : Hid (totalI cs vs d x = dx + wsum cs vs cs.length) := by show _ = _; unfold totalI; rw [HDX.out]
  clear hc hh hvs hK hen hx HDX
  rcases hv with ⟨_, _, _, rfl⟩ | ⟨b, off, cap, rfl, g0, g1, g2, g3⟩
  · simp at n1
  rcases hu with ⟨_, _, _, rfl⟩ | ⟨b', off', cap', rfl, k0, k1, k2, k3⟩
  · simp at hl; omega
  have G2 : Hid (∀ i, i < cs.length → w.cell? ⟨b, off + i, none⟩ = some (.int .i64 (nth cs i))) := g2
  have K2 : Hid (∀ i, i < vs.length → w.cell? ⟨b', off' + i, none⟩ = some (.int .i64 (nth vs i))) := k2
  clear g2 g3 k2 k3
  rw [hl] at *
  clear hl
  generalize cs.length = n at *
  generalize sumI cs = S at *
  have hsd : S + d ≤ 2147483648 := by omega
  have hsd0 : 0 < S + d := by omega
  go_enter Try.func43, Try.ntmps43
  go_wp2_with (go_at_fn K; refine HKK.out.mono ?_; rintro e w' ⟨rfl, rfl⟩)
  go_loop [11, 12, 13, 23] (fun s _ _ i => ∃ k : Nat, k ≤ n ∧ i = .int .i64 k ∧ s = .int .i64 (dx + wsum cs vs k)) (fun _ _ _ i => n - (intOf i).toNat)
  case atStart => exact ⟨0, Nat.zero_le _, rfl, by show _ = Value.int .i64 (dx + 0); rw [Int.add_zero]⟩
  case round =>
    obtain ⟨k, hk, rfl, rfl⟩ := hrel
    obtain ⟨b1, b2⟩ := HB.out k hk
    by_cases hlt : k < n
    · have hc := G2.out k hlt
      have hc2 := K2.out k hlt
      obtain ⟨z1, z2⟩ := HC.out k hlt
      obtain ⟨y1, y2⟩ := HVS.out k hlt
      obtain ⟨p, ep, p1, p2, HP⟩ := prod_fits z1 z2 y1 y2
      have HE : Hid (wsum cs vs (k + 1) = wsum cs vs k + p) := by show _ = _; rw [← HP.out]; rfl
      clear HP
      generalize wsum cs vs k = s at *
      generalize nth cs k = z at *
      generalize nth vs k = y at *
      go_wp2_with fail
      go_round
      case rel => exact ⟨k + 1, by omega, by go_num, by rw [HE.out, Int.add_assoc]⟩
      case measure => simp [intOf]; omega
    · obtain rfl : k = n := by omega
      generalize wsum cs vs k = s at *
      go_wp2_with (first
        | (go_at_call 40; refine HSC.out.mono ?_; rintro e w' ⟨rfl, rfl⟩)
        | (go_at_call 65; refine (HSH.out _ _ hsd0 hsd (by omega) (by omega) _).mono ?_; rintro e w1 ⟨rfl, hb⟩))
      go_ret
      exact ⟨ret_i64 (by rw [HT.out]), hb⟩

/-- Is what Mean is asked valid? -/
def mnOk (cs vs : List Int) (d : Int) : Bool := countB cs && (decide (vs.length = cs.length) && (!(vs.any fun x => !wB x (-68719476736) 68719476736) && wB d 1 1000))

theorem mnOk_vals {cs vs : List Int} {d : Int} (h : mnOk cs vs d = true) : countB cs = true ∧ vs.length = cs.length ∧ (∀ j, j < vs.length → -68719476736 ≤ nth vs j ∧ nth vs j ≤ 68719476736) ∧ 1 ≤ d ∧ d ≤ 1000 := by
  simp only [mnOk, Bool.and_eq_true, decide_eq_true_eq, Bool.not_eq_true', List.any_eq_false, wB_iff] at h
  obtain ⟨h1, h2, h3, h4⟩ := h
  refine ⟨h1, h2, fun j hj => ?_, h4.1, h4.2⟩
  have := h3 _ (getD_mem hj)
  rw [Bool.not_eq_false] at this
  exact (wB_iff _ _ _).1 this

/-- The bounds of a mean. -/
def mnLow (cs vs : List Int) (d : Int) : Int := rndQ 1 (totalI cs vs d (minTo vs (vs.length - 1))) (sumI cs + d)
def mnHigh (cs vs : List Int) (d : Int) : Int := rndQ 2 (totalI cs vs d (maxTo vs (vs.length - 1))) (sumI cs + d)

set_option maxHeartbeats 1000000 in
theorem mean_ok (cs vs : List Int) (d : Int) (v u : Value) (w : World) (hv : Ints w v cs) (hu : Ints w u vs) (h : mnOk cs vs d = true) :
    Calls Try.prog 14 #[v, u, .int .i64 d] w fun e w' => e = .returned (.tuple #[.int .i64 (mnLow cs vs d), .int .i64 (mnHigh cs vs d), .int .i64 0]) ∧ Below w.heap.size w w' := by
  obtain ⟨h1, h2, h3, h4, h5⟩ := mnOk_vals h
  have n1 : 0 < vs.length := by have := ((countB_iff cs).1 h1).1.1; omega
  have HL : Hid (∀ w, Ints w v cs → Ints w u vs → Calls Try.prog 43 #[v, u, .int .i64 d, .func (.func 44) #[] #[], .int .i64 1] w fun e w' => e = .returned (.int .i64 (mnLow cs vs d)) ∧ Below w.heap.size w w') :=
    fun w hv hu => meanf_c cs vs d _ 1 _ v u w hv hu (enters_of Try.func44 (by kernel_rfl) rfl) (minFix_c vs u w hu n1) h1 h2 h3 h4 h5 (minTo_bd h3 _ (by omega)) (.inl rfl)
  have HH : Hid (∀ w, Ints w v cs → Ints w u vs → Calls Try.prog 43 #[v, u, .int .i64 d, .func (.func 45) #[] #[], .int .i64 2] w fun e w' => e = .returned (.int .i64 (mnHigh cs vs d)) ∧ Below w.heap.size w w') :=
    fun w hv hu => meanf_c cs vs d _ 2 _ v u w hv hu (enters_of Try.func45 (by kernel_rfl) rfl) (maxFix_c vs u w hu n1) h1 h2 h3 h4 h5 (maxTo_bd h3 _ (by omega)) (.inr rfl)
  have HC : Hid (Calls Try.prog 38 #[v] w fun e w' => e = .returned (.bool true) ∧ w = w') := by have := counted_c cs v w hv; rw [h1] at this; exact this
  simp only [mnOk, Bool.and_eq_true, Bool.not_eq_true'] at h
  obtain ⟨-, -, h6, h7⟩ := h
  have HO : Hid (Calls Try.prog 42 #[u, .func (.func 41) #[] #[]] w fun e w' => e = .returned (.bool false) ∧ w = w') := by
    have := containsFuncFix_c 41 #[] vs _ u w (mean1_pure vs) hu
    rw [h6] at this; exact this
  have H7 : Hid (wB d 1 1000 = true) := h7
  have HV : Hid (Ints w v cs) := hv
  have HU : Hid (Ints w u vs) := hu
  obtain ⟨p, cap, rfl⟩ := hv.shape
  obtain ⟨p', cap', rfl⟩ := hu.shape
  have hbn : ((vs.length : Int) != (cs.length : Int)) = false := by rw [h2]; simp
  clear h1 h2 h3 h6 h7 hv hu
  go_enter Try.func14, Try.ntmps14
  go_wp2_with (first
    | (go_at_call 38; refine HC.out.mono ?_; rintro e w' ⟨rfl, rfl⟩)
    | (go_at_call 42; refine HO.out.mono ?_; rintro e w' ⟨rfl, rfl⟩)
    | (go_at_call 25; refine (within_c _ _ _ _).mono ?_; rintro e w' ⟨rfl, rfl⟩; rw [H7.out])
    | (go_at_call 43; with_reducible refine (HL.out _ HV.out HU.out).mono ?_; rintro e w1 ⟨rfl, hb1⟩)
    | (go_at_call 43; with_reducible refine (HH.out _ (HV.out.below hb1 (Nat.le_refl _)) (HU.out.below hb1 (Nat.le_refl _))).mono ?_; rintro e w2 ⟨rfl, hb2⟩))
  go_ret3
  exact ⟨rfl, hb1.trans (hb2.mono hb1.size)⟩

set_option maxHeartbeats 1000000 in
theorem mean_bad (cs vs : List Int) (d : Int) (v u : Value) (w : World) (hv : Ints w v cs) (hu : Ints w u vs) (h : mnOk cs vs d = false) :
    Calls Try.prog 14 #[v, u, .int .i64 d] w fun e w' => e = .returned (.tuple #[.int .i64 0, .int .i64 0, .int .i64 2]) ∧ Below w.heap.size w w' := by
  have HC : Hid (Calls Try.prog 38 #[v] w fun e w' => e = .returned (.bool (countB cs)) ∧ w = w') := counted_c cs v w hv
  have HO : Hid (Calls Try.prog 42 #[u, .func (.func 41) #[] #[]] w fun e w' => e = .returned (.bool (vs.any fun x => !wB x (-68719476736) 68719476736)) ∧ w = w') :=
    containsFuncFix_c 41 #[] vs _ u w (mean1_pure vs) hu
  obtain ⟨p, cap, rfl⟩ := hv.shape
  obtain ⟨p', cap', rfl⟩ := hu.shape
  clear hv hu
  have hcases : ∃ b1 b2 b3 b4 : Bool, countB cs = b1 ∧ ((vs.length : Int) != (cs.length : Int)) = b2 ∧ (vs.any fun x => !wB x (-68719476736) 68719476736) = b3 ∧ wB d 1 1000 = b4 ∧ (!b1 || (b2 || (b3 || !b4))) = true := by
    refine ⟨_, _, _, _, rfl, rfl, rfl, rfl, ?_⟩
    unfold mnOk at h
    have e : decide (vs.length = cs.length) = !((vs.length : Int) != (cs.length : Int)) := by
      rw [Bool.eq_iff_iff, decide_eq_true_eq, bne, Bool.not_not, beq_iff_eq]; omega
    rw [e] at h
    revert h
    generalize countB cs = b1
    generalize ((vs.length : Int) != (cs.length : Int)) = b2
    generalize (vs.any fun x => !wB x (-68719476736) 68719476736) = b3
    generalize wB d 1 1000 = b4
    revert b1 b2 b3 b4
    decide
  obtain ⟨b1, b2, b3, b4, e1, e2, e3, e4, e5⟩ := hcases
  rw [e1] at HC
  rw [e3] at HO
  have H4 := Hid.mk' e4
  clear e1 e3 e4 h
  cases b1
  · clear e5
    go_enter Try.func14, Try.ntmps14
    go_wp2_with (go_at_call 38; refine HC.out.mono ?_; rintro e w' ⟨rfl, rfl⟩)
    go_ret3
    exact ⟨rfl, Below.refl _ _⟩
  cases b2
  case true =>
    clear e5
    go_enter Try.func14, Try.ntmps14
    go_wp2_with (go_at_call 38; refine HC.out.mono ?_; rintro e w' ⟨rfl, rfl⟩)
    go_ret3
    exact ⟨rfl, Below.refl _ _⟩
  cases b3
  case true =>
    clear e5
    go_enter Try.func14, Try.ntmps14
    go_wp2_with (first
      | (go_at_call 38; refine HC.out.mono ?_; rintro e w' ⟨rfl, rfl⟩)
      | (go_at_call 42; refine HO.out.mono ?_; rintro e w' ⟨rfl, rfl⟩))
    go_ret3
    exact ⟨rfl, Below.refl _ _⟩
  cases b4
  case true => simp at e5
  clear e5
  go_enter Try.func14, Try.ntmps14
  go_wp2_with (first
    | (go_at_call 38; refine HC.out.mono ?_; rintro e w' ⟨rfl, rfl⟩)
    | (go_at_call 42; refine HO.out.mono ?_; rintro e w' ⟨rfl, rfl⟩)
    | (go_at_call 25; refine (within_c _ _ _ _).mono ?_; rintro e w' ⟨rfl, rfl⟩; rw [H4.out]))
  go_ret3
  exact ⟨rfl, Below.refl _ _⟩
end Go.Proofs.Ytleceelemogbcaa

/- The chapter's first examples: alive. -/
namespace Go.Proofs.Ytleceelemogbcaa
open Go.RowKit

theorem few_c (w : World) : Calls Try.prog 23 #[] w fun e w' => e = .returned (.slice (some ⟨w.heap.size, 0, none⟩) 3 3) ∧ w' = w.alloc (.cells #[.int .i64 6, .int .i64 3, .int .i64 1] 3) := by
  go_enter Try.func23, Try.ntmps23
  go_wp2
  go_ret
  exact ⟨rfl, rfl⟩

/-- The call of the chapter's examples. -/
def drawC : Cal := ⟨0, 0, ⟨0, 0, 0, 1000, 0⟩, [], 10, 20⟩

theorem draw_c (w : World) : Calls Try.prog 24 #[] w fun e w' => e = .returned (.agg (drawC.cells (.slice none 0 0))) ∧ Below w.heap.size w w' := by
  go_enter Try.func24, Try.ntmps24
  go_wp2
  exact bodyPost_ret (v := .agg #[.int .i64 0, .int .i64 0, .int .i64 0, .int .i64 0, .int .i64 0, .int .i64 1000, .int .i64 0, .slice none 0 0, .int .i64 10, .int .i64 20]) (by simp [results, Try.results24, go_sem]) rfl ⟨rfl, (Below.refl _ _).alloc (Nat.le_refl _) _⟩

/-- A slice that was built. -/
theorem ints_built {w : World} {B : Nat} (xs : List Int) (h0 : 0 < xs.length) (hb : ∀ x ∈ xs, -9223372036854775808 ≤ x ∧ x ≤ 9223372036854775807) (hl : xs.length ≤ 100) (hc : ∀ i, i < xs.length → w.cell? ⟨B, i, none⟩ = some (.int .i64 (nth xs i))) :
    Ints w (.slice (some ⟨B, 0, none⟩) xs.length xs.length) xs :=
  .inr ⟨B, 0, xs.length, rfl, h0, by omega, fun i hi => by rw [Nat.zero_add]; exact hc i hi, hb⟩

theorem alive_vals : chOk [6, 3, 1] [1, 2] 2 = true ∧ chLow [6, 3, 1] [1, 2] 2 = 4 ∧ chHigh [6, 3, 1] [1, 2] 2 = 6 ∧ sumI [6, 3, 1] = 10 ∧ mnOk [6, 3, 1] [0, 65536, 131072] 2 = true ∧ mnLow [6, 3, 1] [0, 65536, 131072] 2 = 27306 ∧ mnHigh [6, 3, 1] [0, 65536, 131072] 2 = 49152 ∧ thErr drawC 0 = 0 ∧ thBody drawC 0 = ⟨0, 0, ⟨0, 0, -30, 940, 0⟩, false⟩ := by
  refine ⟨by decide +kernel, by decide +kernel, by decide +kernel, by decide +kernel, by decide +kernel, by decide +kernel, by decide +kernel, by decide +kernel, by rfl⟩

theorem ints_few {w w' : World} (hb : Below (w.heap.size + 1) (w.alloc (.cells #[.int .i64 6, .int .i64 3, .int .i64 1] 3)) w') : Ints w' (.slice (some ⟨w.heap.size, 0, none⟩) 3 3) [6, 3, 1] := by
  refine ints_built [6, 3, 1] (by simp) (by simp) (by simp) fun i hi => ?_
  rw [hb.cell (p := ⟨w.heap.size, i, none⟩) (by simp)]
  match i with
  | 0 => simp [go_sem, nth]
  | 1 => simp [go_sem, nth]
  | 2 => simp [go_sem, nth]
  | i + 3 => simp at hi; omega

theorem ints_12 {w w' : World} {t : TypeId} (hb : Below (w.heap.size + 1) (w.alloc (.cells #[.int .i64 1, .int .i64 2] t)) w') : Ints w' (.slice (some ⟨w.heap.size, 0, none⟩) 2 2) [1, 2] := by
  refine ints_built [1, 2] (by simp) (by simp) (by simp) fun i hi => ?_
  rw [hb.cell (p := ⟨w.heap.size, i, none⟩) (by simp)]
  match i with
  | 0 => simp [go_sem, nth]
  | 1 => simp [go_sem, nth]
  | i + 2 => simp at hi; omega

theorem ints_vals {w w' : World} {t : TypeId} (hb : Below (w.heap.size + 1) (w.alloc (.cells #[.int .i64 0, .int .i64 65536, .int .i64 131072] t)) w') : Ints w' (.slice (some ⟨w.heap.size, 0, none⟩) 3 3) [0, 65536, 131072] := by
  refine ints_built [0, 65536, 131072] (by simp) (by simp) (by simp) fun i hi => ?_
  rw [hb.cell (p := ⟨w.heap.size, i, none⟩) (by simp)]
  match i with
  | 0 => simp [go_sem, nth]
  | 1 => simp [go_sem, nth]
  | 2 => simp [go_sem, nth]
  | i + 3 => simp at hi; omega

theorem few_i (w : World) : Calls Try.prog 23 #[] w fun e w' => e = .returned (.slice (some ⟨w.heap.size, 0, none⟩) 3 3) ∧ Below w.heap.size w w' ∧ Ints w' (.slice (some ⟨w.heap.size, 0, none⟩) 3 3) [6, 3, 1] :=
  (few_c w).mono fun e w' ⟨h1, h2⟩ => by
    subst h2
    exact ⟨h1, (Below.refl _ _).alloc (Nat.le_refl _) _, ints_few (Below.refl _ _)⟩

set_option maxHeartbeats 2000000 in
theorem alive_c (w : World) : Calls Try.prog 7 #[] w fun e w' => e = .returned (.bool true) ∧ Below w.heap.size w w' := by
  obtain ⟨v1, v2, v3, v4, v5, v6, v7, v8, v9⟩ := alive_vals
  have HCH : Hid (∀ w v u, Ints w v [6, 3, 1] → Ints w u [1, 2] → Calls Try.prog 13 #[v, u, .int .i64 2] w fun e w' => e = .returned (.tuple #[oddsV 4 12, oddsV 6 12, .int .i64 0]) ∧ Below w.heap.size w w') := fun w v u h1 h2 => by
    have := chance_ok [6, 3, 1] [1, 2] 2 v u w h1 h2 v1
    rw [v2, v3, v4] at this; exact this
  have HMN : Hid (∀ w v u, Ints w v [6, 3, 1] → Ints w u [0, 65536, 131072] → Calls Try.prog 14 #[v, u, .int .i64 2] w fun e w' => e = .returned (.tuple #[.int .i64 27306, .int .i64 49152, .int .i64 0]) ∧ Below w.heap.size w w') := fun w v u h1 h2 => by
    have := mean_ok [6, 3, 1] [0, 65536, 131072] 2 v u w h1 h2 v5
    rw [v6, v7] at this; exact this
  have HTH : Hid (∀ w, Calls Try.prog 8 #[.agg (drawC.cells (.slice none 0 0)), .int .i64 0] w fun e w' => e = .returned (.tuple #[.agg #[.int .i64 0, .int .i64 0, .int .i64 0, .int .i64 0, .int .i64 (-30), .int .i64 940, .int .i64 0, .bool false], .int .i64 0]) ∧ Below w.heap.size w w') := fun w => by
    have := throw_c drawC (.slice none 0 0) 0 w (.inl ⟨none, 0, rfl, rfl⟩)
    rw [v8, v9] at this; exact this
  clear v1 v2 v3 v4 v5 v6 v7 v8 v9
  go_enter Try.func7, Try.ntmps7
  go_wp2_with fail
  refine (few_i _).mono ?_
  rintro e w1 ⟨rfl, hb1, hi1⟩
  have HI1 := Hid.mk' hi1
  clear hi1
  go_wp2_with fail
  refine (HCH.out _ _ _ ?_ ?_).mono ?_
  · exact HI1.out.below ((Below.refl _ _).alloc (Nat.le_refl _) _) (Nat.le_refl _)
  · exact ints_12 (Below.refl _ _)
  rintro e w2 ⟨rfl, hb2⟩
  have hB2 : Below w.heap.size w w2 := hb1.trans (((Below.refl _ _).alloc hb1.size _).trans (hb2.mono (by have := hb1.size; simp <;> omega)))
  clear hb1 hb2 HI1
  go_wp2_with fail
  refine (few_i _).mono ?_
  rintro e w3 ⟨rfl, hb3, hi3⟩
  rw [World.size_alloc, World.size_alloc] at hi3
  have HI3 := Hid.mk' hi3
  clear hi3
  go_wp2_with fail
  refine (HMN.out _ _ _ ?_ ?_).mono ?_
  · exact HI3.out.below ((Below.refl _ _).alloc (Nat.le_refl _) _) (Nat.le_refl _)
  · exact ints_vals (Below.refl _ _)
  rintro e w4 ⟨rfl, hb4⟩
  have hB4 := hb3.trans (((Below.refl _ w3).alloc hb3.size (.cells #[.int .i64 0, .int .i64 65536, .int .i64 131072] 22)).trans (hb4.mono (by have := hb3.size; simp at * <;> omega)))
  clear hb3 hb4 HI3
  go_wp2_with fail
  refine (draw_c _).mono ?_
  rintro e w5 ⟨rfl, hb5⟩
  go_wp2_with fail
  refine (HTH.out _).mono ?_
  rintro e w6 ⟨rfl, hb6⟩
  have hB6 := hB4.trans ((hb5.mono hB4.size).trans (hb6.mono (Nat.le_trans hB4.size hb5.size)))
  obtain ⟨hc1, hc2, hf1, hf2, hz⟩ := two_new hB6
  have a0 := hc1 0
  have a1 := hc1 1
  have b0 := hc2 0
  have b1 := hc2 1
  have hz0 : w2.heap.size < w6.heap.size := by omega
  have HB6 := Hid.mk' hB6
  clear hc1 hc2 hf1 hf2 hB6 hB4 hb5 hb6
  go_wp2_with fail
  go_ret
  refine ⟨rfl, ?_⟩
  exact (hB2.trans ((((Below.refl _ _).alloc hB2.size _).alloc (by have := hB2.size; simp <;> omega) _).trans (HB6.out.mono (by have := hB2.size; simp <;> omega)))).alloc (by have := hB2.size; omega) _
end Go.Proofs.Ytleceelemogbcaa
