/- The map of stones' names: package contact. -/
import Derived.Test.YtleceelemogbcaaCoA
import Derived.Maps.Own
namespace Go.Proofs.Ytleceelemogbcaa
open Go.RowKit

/-- Block B is a map whose keys are just these names. -/
def NamesMap (w : World) (B : Nat) (ks : List (Int × Int)) : Prop :=
  ∃ es clock, w.heap[B]? = some (.map es clock) ∧ es.toList.map (·.key) = ks.map (fun k => keyV k.1 k.2) ∧ ∀ e ∈ es.toList, e.val = .bool true

theorem findAsking_names (a b : Int) (w : World) : ∀ (es : List MapEntry) (ks : List (Int × Int)) (i : Nat), es.map (·.key) = ks.map (fun k => keyV k.1 k.2) → (∀ e ∈ es, e.val = .bool true) →
    ((a, b) ∉ ks → (Instr.findAsking 121 (keyV a b) es i).run Try.prog w = .ok none w) ∧
    ((a, b) ∈ ks → ∃ j, (Instr.findAsking 121 (keyV a b) es i).run Try.prog w = .ok (some (j, .bool true)) w)
  | [], [], i, _, _ => by simp [Instr.findAsking]
  | [], _ :: _, _, h, _ => by simp at h
  | _ :: _, [], _, h, _ => by simp at h
  | e :: es, (c, d) :: ks, i, h, hv => by
    simp only [List.map_cons, List.cons.injEq] at h
    obtain ⟨hk, hr⟩ := h
    obtain ⟨h1, h2⟩ := findAsking_names a b w es ks (i + 1) hr (fun x hx => hv x (List.mem_cons_of_mem _ hx))
    have hval := hv e (List.mem_cons_self ..)
    have heq := equal_key a b c d w
    rw [← hk] at heq
    constructor
    · intro hn
      simp only [List.mem_cons, not_or] at hn
      have hne : (a == c && b == d) = false := by
        have := hn.1
        simp only [Prod.mk.injEq, not_and] at this
        by_cases hac : a = c
        · simp [hac, this hac]
        · simp [hac]
      rw [hne] at heq
      simp [Instr.findAsking, Sem.run_bind, heq, h1 hn.2]
    · intro hm
      by_cases hc : a = c ∧ b = d
      · obtain ⟨rfl, rfl⟩ := hc
        have : (a == a && b == b) = true := by simp
        rw [this] at heq
        exact ⟨i, by simp [Instr.findAsking, Sem.run_bind, heq, hval]⟩
      · have hne : (a == c && b == d) = false := by
          by_cases hac : a = c
          · have : ¬ b = d := fun h => hc ⟨hac, h⟩
            simp [this]
          · simp [hac]
        rw [hne] at heq
        have hm' : (a, b) ∈ ks := by
          rcases List.mem_cons.1 hm with h | h
          · simp only [Prod.mk.injEq] at h; exact absurd h hc
          · exact h
        obtain ⟨j, hj⟩ := h2 hm'
        exact ⟨j, by simp [Instr.findAsking, Sem.run_bind, heq, hj]⟩

theorem findKey_names (a b : Int) (w : World) (es : List MapEntry) (ks : List (Int × Int)) (h : es.map (·.key) = ks.map (fun k => keyV k.1 k.2)) (hv : ∀ e ∈ es, e.val = .bool true) :
    ((a, b) ∉ ks → (Instr.findKey 121 (keyV a b) es).run Try.prog w = .ok none w) ∧
    ((a, b) ∈ ks → ∃ j, (Instr.findKey 121 (keyV a b) es).run Try.prog w = .ok (some (j, .bool true)) w) := by
  obtain ⟨h1, h2⟩ := findAsking_names a b w es ks 0 h hv
  unfold Instr.findKey
  simp only [Sem.run_bind, run_underlying Try.underlying121, Result.andThen_ok]
  cases es with
  | nil =>
    cases ks with
    | nil => simp [Instr.findNow]
    | cons _ _ => simp at h
  | cons e es =>
    have hn : ∀ d, Instr.findNow (.array 2 d) (keyV a b) (e :: es) 0 = none := by
      intro d
      simp [Instr.findNow, Instr.sameNow]
    simp only [hn]
    exact ⟨h1, h2⟩

theorem zero_bool (w : World) : (zeroValue 4).run Try.prog w = .ok (.bool false) w := by kernel_rfl

/-- 'names[k]': is the name there? -/
theorem names_lookup {w : World} {B : Nat} {ks : List (Int × Int)} (h : NamesMap w B ks) (a b : Int) :
    (Instr.lookup 118 (.map (some B)) (keyV a b) false).run Try.prog w = .ok (.bool (decide ((a, b) ∈ ks))) w := by
  obtain ⟨es, clock, hb, hk, hv⟩ := h
  obtain ⟨h1, h2⟩ := findKey_names a b w es.toList ks hk hv
  unfold Instr.lookup
  simp only [Sem.run_bind, run_underlying Try.underlying118, Result.andThen_ok, MapKept.run_getObj_map hb, Sem.run_pure, check_key]
  by_cases hm : (a, b) ∈ ks
  · obtain ⟨j, hj⟩ := h2 hm
    simp [hj, hm]
  · simp [h1 hm, hm, zero_bool]

/-- 'names[k] = true', of a name that was not there. -/
theorem names_update {w : World} {B : Nat} {ks : List (Int × Int)} (h : NamesMap w B ks) (a b : Int) (hn : (a, b) ∉ ks) :
    ∃ w', (Instr.mapUpdate 118 (.map (some B)) (keyV a b) (.bool true)).run Try.prog w = .ok () w' ∧ NamesMap w' B (ks ++ [(a, b)]) ∧ w.grownBy w' (some B) := by
  obtain ⟨es, clock, hb, hk, hv⟩ := h
  obtain ⟨h1, -⟩ := findKey_names a b w es.toList ks hk hv
  refine ⟨ChangeMaps.setBlock w B (.map (es.push { key := keyV a b, val := .bool true, born := clock }) (clock + 1)), ?_, ⟨_, _, ChangeMaps.heap_setBlock_same hb _, ?_, ?_⟩, ⟨rfl, rfl, rfl, by simp [ChangeMaps.setBlock], fun i _ hi => ChangeMaps.heap_setBlock_other hb _ (fun e => hi (by rw [e]))⟩⟩
  · unfold Instr.mapUpdate
    simp [Sem.run_bind, run_underlying Try.underlying118, MapKept.run_getObj_map hb, check_key, h1 hn, MapKept.run_setObj_map _ hb, Result.andThen, ChangeMaps.setBlock]
  · simp [hk]
  · intro e he
    simp only [Array.toList_push, List.mem_append, List.mem_singleton] at he
    rcases he with he | rfl
    · exact hv e he
    · rfl

/-- .. at the operation, for the walk. -/
theorem wpList_names {P : Program} (hP : P = Try.prog) (w : World) {ops : Array Oper} {rest : List Oper} {o : Oper} {a : Act} {Q : Exit → Act → World → Prop}
    (hg : o.guard = none) (m x v : Operand) (hop : o.op = Op.mapUpdate 118 m x v) (B : Nat) (ks : List (Int × Int)) (c d : Int)
    (hm : a.eval m = .map (some B)) (hx : a.eval x = keyV c d) (hv : a.eval v = .bool true) (hown : NamesMap w B ks) (hn : (c, d) ∉ ks)
    (hK : ∀ w', NamesMap w' B (ks ++ [(c, d)]) → w.grownBy w' (some B) → wpList P ops Q rest (a.put o.dst undef) w') :
    wpList P ops Q (o :: rest) a w := by
  subst hP
  refine wpList_plain hg fun K' hK' => ?_
  obtain ⟨w', hrun, r1, r2⟩ := names_update hown c d hn
  unfold Oper.wp
  simp [execOp, hop, hm, hx, hv, hrun, Result.andThen]
  exact hK' _ _ (hK w' r1 r2)

theorem NamesMap.kept {w w' : World} {B : Nat} {ks : List (Int × Int)} (h : NamesMap w B ks) (hb : w'.heap[B]? = w.heap[B]?) : NamesMap w' B ks := by
  obtain ⟨es, clock, h1, h2⟩ := h
  exact ⟨es, clock, hb.trans h1, h2⟩

theorem NamesMap.lt {w : World} {B : Nat} {ks : List (Int × Int)} (h : NamesMap w B ks) : B < w.heap.size := by
  obtain ⟨es, clock, h1, _⟩ := h
  exact (Array.getElem?_eq_some_iff.1 h1).1

theorem NamesMap.below {w w' : World} {B C : Nat} {ks : List (Int × Int)} (h : NamesMap w B ks) (hb : Below C w w') (hc : B < C) : NamesMap w' B ks := h.kept (hb.block B hc)

theorem names_made (w : World) : NamesMap (w.alloc (.map #[] 0)) w.heap.size [] :=
  ⟨#[], 0, by show (w.heap.push _)[w.heap.size]? = _; simp, rfl, by simp⟩

/-- v is a slice of bodies that reads as bs. -/
def Bods (w : World) (v : Value) (bs : List Bod) : Prop :=
  (∃ p cap, v = .slice p 0 cap ∧ bs = []) ∨
  (∃ b off cap, v = .slice (some ⟨b, off, none⟩) bs.length cap ∧ 0 < bs.length ∧ bs.length ≤ 9223372036854775807 ∧ ∀ (i : Nat) (x : Bod), bs[i]? = some x → ∀ j, j < 8 → w.cell? ⟨b, off + i * 8 + j, none⟩ = x.cells[j]?)

theorem Bods.below {w w' : World} {v : Value} {bs : List Bod} {B : Nat} (h : Bods w v bs) (hb : Below B w w') (hB : w.heap.size ≤ B) : Bods w' v bs := by
  rcases h with h | ⟨b, off, cap, rfl, h0, h1, h2⟩
  · exact .inl h
  · refine .inr ⟨b, off, cap, rfl, h0, h1, fun i x hx j hj => ?_⟩
    have hc := h2 i x hx j hj
    have hlt : b < w.heap.size := by
      have : ∃ y, x.cells[j]? = some y := ⟨x.cells[j]'(by simpa [Bod.cells] using hj), by simp⟩
      obtain ⟨y, hy⟩ := this
      exact lt_of_cell (hc.trans hy)
    rw [hb.cell (p := ⟨b, off + i * 8 + j, none⟩) (by show b < B; omega)]
    exact hc

/-- The name of a body. -/
def Bod.name (b : Bod) : Int × Int := (b.team, b.n)

/-- Is something wrong with a body behind others? -/
def Bod.bad (before : List Bod) (b : Bod) : Bool := !b.ok || (decide (b.name ∈ before.map Bod.name) || (b.out && (!b.rests || b.m.spin != 0)))

/-- Are bodies, behind others, all right? -/
def bodsOk (before : List Bod) : List Bod → Bool
  | [] => true
  | b :: r => !b.bad before && bodsOk (before ++ [b]) r

/-- Is a scene valid? -/
def sceneB (bs : List Bod) : Bool := decide (bs.length ≤ 16) && bodsOk [] bs

end Go.Proofs.Ytleceelemogbcaa
