/- Parts of the proof, in build order. -/
import Derived.Test.YtleceelemogbcaaM4
import Derived.RangeFuncLeaves
import Derived.Laws.Sem
/- Functions: what the evaluator says of a function is so. -/
namespace Go.Proofs.Ytleceelemogbcaa
open Go.RowKit

theorem peek2_alive {h : List ABlk} {v u : AVal} (hp : peek2 h v = some u) : ∀ i ∈ v.named2, alive h i := by
  intro i hi
  unfold peek2 at hp
  split at hp
  · rename_i vs
    split at hp
    · rename_i us hus
      obtain ⟨c, hc, hi⟩ := List.mem_flatMap.1 hi
      obtain ⟨j, hj, rfl⟩ := List.mem_iff_getElem.1 hc
      obtain ⟨h1, h2⟩ := peekL_get hus
      exact peek1_alive (h2 j _ _ (List.getElem?_eq_getElem hj) (List.getElem?_eq_getElem (by omega))) i hi
    · cases hp
  · rename_i t v
    split at hp
    · rename_i u' hu
      exact peek1_alive hu i hi
    · cases hp
  · rename_i v h1 h2
    refine peek1_alive hp i ?_
    unfold AVal.named2 at hi
    split at hi
    · exact absurd rfl (h1 _)
    · exact absurd rfl (h2 _ _)
    · exact hi

def resF (tmps : Array Value) : ResultVar → Sem Value
  | .tmp t => pure (tmps.getD t Go.undef)
  | .cell a t => do loadVar t (← asAddr (tmps.getD a Go.undef))

theorem results_eq (fn : Func) (tmps : Array Value) : results fn tmps = (fn.results.mapM (resF tmps) >>= fun vs => pure (if h : vs.size = 1 then vs[0] else .tuple vs)) := by
  unfold results
  congr 1

section
variable {P : Program} {T : Tab} {env : Env}

/-- What a function gives back, given up. -/
theorem out_of {M : Nat → Prop} {w w' : World} {s1 : AS} {g' : Gh} {v u : AVal} {x : Value} (hs : St (fun b => b < w.heap.size) s1.heap g' w') (hl : Le (fun b => b < w.heap.size) [] ⟨fun _ => Go.undef, M⟩ w s1.heap g' w') (hr : Rep s1.heap g' w' v x) (hp : peek2 s1.heap v = some u) :
    ∃ M' : Nat → Prop, (∀ b, M b → M' b) ∧ (∀ b, M' b → M b ∨ w.heap.size ≤ b) ∧ (∀ b, M' b → b < w'.heap.size) ∧ Below w.heap.size w w' ∧ Rep [] ⟨fun _ => Go.undef, M'⟩ w' u x := by
  refine ⟨(g'.plus v.named2).M, fun b hb => .inl (hl.m b hb), fun b hb => ?_, fun b hb => ?_, ⟨hl.os, hl.tape, hl.output, hl.size, hl.k⟩, ?_⟩
  · rcases hb with hb | ⟨i, hi, hb⟩
    · exact (hl.new b hb).imp id fun h => Nat.le_of_not_lt h
    · exact .inr (Nat.le_of_not_lt (hs.sep i b (peek2_alive hp i hi) hb).1)
  · rcases hb with hb | ⟨i, hi, hb⟩
    · exact hs.low b hb
    · exact (hs.sep i b (peek2_alive hp i hi) hb).2.2
  · exact peek2_rep (g' := ⟨fun _ => Go.undef, (g'.plus v.named2).M⟩) hs hr hp (fun b hb => Or.inl hb) fun i hi b hb => Or.inr ⟨i, hi, hb⟩

theorem res_run (hT : TabOk P T) {K : Nat → Prop} {s : AS} {g : Gh} {w : World} {tmps : Array Value} (hs : St K s.heap g w) (ht : TRep s.heap g w s.tmps tmps) : ∀ (rs : List ResultVar) (vs : List AVal), resOf T s rs = some vs →
    ∃ xs : List Value, (rs.mapM (resF tmps)).run P w = .ok xs w ∧ vs.length = xs.length ∧ ∀ (j : Nat) c x, vs[j]? = some c → xs[j]? = some x → Rep s.heap g w c x
  | [], vs, h => by
    simp only [resOf, Option.some.injEq] at h
    subst h
    exact ⟨[], by simp, rfl, fun j c x hc => by simp at hc⟩
  | .tmp t :: r, vs, h => by
    simp only [resOf] at h
    split at h
    · rename_i l hl
      cases h
      obtain ⟨xs, h1, h2, h3⟩ := res_run hT hs ht r l hl
      refine ⟨tmps.getD t Go.undef :: xs, ?_, by simp [h2], fun j c x hc hx => ?_⟩
      · rw [List.mapM_cons, Sem.run_bind]
        show ((List.mapM (resF tmps) r >>= _ : Sem _)).run P w = _
        rw [Sem.run_bind, h1]
        rfl
      · cases j with
        | zero =>
          simp only [List.getElem?_cons_zero, Option.some.injEq] at hc hx
          subst hc; subst hx
          exact ht.get t
        | succ j => exact h3 j c x (by simpa using hc) (by simpa using hx)
    · cases h
  | .cell a t :: r, vs, h => by
    simp only [resOf] at h
    split at h
    · rename_i cs l hc hl
      split at h
      · rename_i v hv
        cases h
        obtain ⟨xs, h1, h2, h3⟩ := res_run hT hs ht r l hl
        obtain ⟨b, n, e1, e2⟩ := cellsAt_rep hs (ht.get a) hc
        obtain ⟨z, e3, e4⟩ := load_var hT e2 hv
        refine ⟨z :: xs, ?_, by simp [h2], fun j c x hc hx => ?_⟩
        · have hz : (resF tmps (.cell a t)).run P w = .ok z w := by
            simp only [resF]
            rw [e1]
            exact e3
          rw [List.mapM_cons, Sem.run_bind, hz]
          show ((List.mapM (resF tmps) r >>= _ : Sem _)).run P w = _
          rw [Sem.run_bind, h1]
          rfl
        · cases j with
          | zero =>
            simp only [List.getElem?_cons_zero, Option.some.injEq] at hc hx
            subst hc; subst hx
            exact e4
          | succ j => exact h3 j c x (by simpa using hc) (by simpa using hx)
      · cases h
    · cases h

theorem results_rep (hT : TabOk P T) {K : Nat → Prop} {s : AS} {g : Gh} {w : World} {tmps : Array Value} (hs : St K s.heap g w) (ht : TRep s.heap g w s.tmps tmps) {fn : Func} {vs : List AVal} (h : resOf T s fn.results.toList = some vs) :
    ∃ x, (results fn tmps).run P w = .ok x w ∧ Rep s.heap g w (match (generalizing := false) vs with | [v] => v | vs => .tup vs) x := by
  obtain ⟨xs, h1, h2, h3⟩ := res_run hT hs ht _ _ h
  refine ⟨if h : xs.toArray.size = 1 then xs.toArray[0] else .tuple xs.toArray, ?_, ?_⟩
  · rw [results_eq, Array.mapM_eq_mapM_toList, bind_map_left, Sem.run_bind, h1]
    rfl
  · match vs, xs, h2 with
    | [], [], _ => exact .tup _ _ rfl fun j c x hc => by simp at hc
    | [v], [x], _ => exact h3 0 v x rfl rfl
    | v :: v' :: vs, x :: x' :: xs, h2 =>
      simp only [List.size_toArray, List.length_cons]
      rw [dif_neg (by omega)]
      exact .tup _ _ (by simpa using h2) fun j c y hc hy => h3 j c y hc (by simpa using hy)

theorem body_nat (hE : EnvOk P env) (N : Nat) (fn : Func) {α : Type} (args : List AVal) (h : List ABlk) (k : AExit → AVal → List ABlk → Option α) :
    evBody real T env N fn args h k = (evBody real T env N fn args h tripE).bind fun p => k p.1 p.2.1 p.2.2 := by
  unfold evBody
  split
  · rfl
  · rename_i c _
    refine bind_nat (e := fun k => ev real T env N c _ k) (fun k => ev_nat hE N c _ k) (fun p : AExit × AVal × List ABlk => k p.1 p.2.1 p.2.2) fun x s' => ?_
    split
    · rfl
    · rfl
    · split <;> rfl

/-- The marks are taken off, ahead of the end. -/
theorem leaves_marks {fn : Func} {tmps : Array Value} {R : Ending → World → Prop} {K K' : Nat → Prop} {h0 h : List ABlk} {g0 g : Gh} {w0 : World} {u : FrameMode} (hu : u ≠ .run) (hkk : ∀ b, K b → K' b) : ∀ (rs : List Nat) (w : World), rs.Nodup → (∀ r ∈ rs, K' r ∧ ¬ K r ∧ ¬ g.M r ∧ w.heap[r]? = some (.deferred (some []))) →
    St K' h g w → Le K h0 g0 w0 h g w → (∀ w', St K' h g w' → Le K h0 g0 w0 h g w' → Le K h g w h g w' → LeavesIn (FW none) 0 P fn tmps R [] u w') →
    LeavesInM (FW none) 0 P fn tmps R (rs.map fun r => ({ target := .collected r, args := #[] } : Deferred)) u w
  | [], w, _, _, hs, hl, hq => hq w hs hl .refl
  | r :: rs, w, hn, hr, hs, hl, hq => by
    obtain ⟨r1, r2, r3, r4⟩ := hr r (by simp)
    have hw : ∀ n, n ≠ r → (w.putObj r (.deferred none)).heap[n]? = w.heap[n]? := fun n hn => World.putObj_heap_other hn
    have l1 : Le K h g w h g (w.putObj r (.deferred none)) := ⟨Nat.le_refl _, fun _ h => h, fun _ h => h, fun _ h => .inl h, fun b hb => hw b fun e => r3 (e ▸ hb), fun b hb => hw b fun e => r2 (e ▸ hb), fun _ wr cs' _ h => ⟨wr, cs', h, rfl, rfl⟩, fun _ wr _ _ xs' _ h => ⟨wr, xs', h, rfl, rfl⟩, fun _ st pend _ _ _ _ _ h => ⟨st, pend, h, rfl⟩, fun _ _ h => h, fun _ _ _ _ h => h, rfl, rfl, rfl, by simp⟩
    have s1 : St K' h g (w.putObj r (.deferred none)) := ⟨fun i b hb => (hs.blk i b hb).mono l1 rfl fun n hd hn => hw n fun e => (hs.sep i n ⟨b, hb, hd⟩ hn).1 (e ▸ r1), hs.inj, fun i b ha hb => by rw [World.putObj_size]; exact hs.sep i b ha hb, fun b hb => by rw [World.putObj_size]; exact hs.low b hb, fun b hb => by rw [World.putObj_size]; exact hs.klow b hb⟩
    obtain ⟨n1, n2⟩ := List.nodup_cons.1 hn
    refine ⟨hu, .inl ⟨r, _, rfl, run_takeDeferred r4, leaves_marks hu hkk rs _ n2 (fun q hq' => ?_) s1 (hl.trans l1) fun w' a b c => hq w' a b (l1.trans c)⟩⟩
    obtain ⟨q1, q2, q3, q4⟩ := hr q (List.mem_cons_of_mem _ hq')
    exact ⟨q1, q2, q3, (hw q fun e => n1 (e ▸ hq')).trans q4⟩

/-- A function, called, is what the evaluator says of its body. -/
theorem body_calls (hm : P.follows .mixedOrders = true) (hT : TabOk P T) (hE : EnvOk P env) (N : Nat) {f : FuncId} {fn : Func} (hf : P.funcs[f]? = some fn) {args : List AVal} {h h1 : List ABlk} {x : AExit} {u : AVal} (hk : evBody real T env N fn args h tripE = some (x, u, h1))
    {K : Nat → Prop} {g : Gh} {w : World} {cargs : Array Value} (hs : St K h g w) (hl : args.length = cargs.size) (hr : ∀ (j : Nat) c z, args[j]? = some c → cargs[j]? = some z → Rep h g w c z) : Calls P f cargs w (CvPost K h g w h1 x u) := by
  unfold evBody at hk
  split at hk
  · cases hk
  · rename_i c hc
    obtain ⟨x1, s1, h1', h2⟩ := ev_pair hE hk
    refine calls_of (callsIn_of_wp_marks (F := FW none) hf hc trivial (ev_wp (ro := none) (K0 := K) hm hT hE N c _ x1 s1 _ w g K _ (fun _ h => h) (fun h => by cases h) h1' hs ⟨by simp [hl], fun j c x hc hx => ?_⟩ MRep.nil ⟨fun K' g' a' w' e kk i1 i2 i3 i4 i5 => ?_⟩))
    · rcases Nat.lt_or_ge j args.length with hj | hj
      · rw [List.getElem?_append_left hj] at hc
        rw [Array.getElem?_append_left (by omega)] at hx
        exact hr j c x hc hx
      · rw [List.getElem?_append_right hj, List.getElem?_replicate] at hc
        rw [Array.getElem?_append_right (by omega), Array.getElem?_replicate] at hx
        split at hc
        · cases hc
          split at hx
          · cases hx; exact .undef
          · cases hx
        · cases hc
    · obtain ⟨rs, n1, n2, n3⟩ := i4
      have ret : ∀ vs, resOf T s1 fn.results.toList = some vs → tripE .normal (match (generalizing := false) vs with | [v] => v | vs => .tup vs) s1.heap = some (x, u, h1) → LeavesInM (FW none) 0 P fn a'.tmps (CvPost K h g w h1 x u) a'.defers .returning w' := fun vs hvs ho => by
        rw [n2]
        refine leaves_marks (by simp) kk rs w' n1 n3 i1 i2 fun w2 j1 j2 j3 => ?_
        obtain ⟨z, e1, e2⟩ := results_rep hT j1 (i3.mono j3) hvs
        cases ho
        exact ⟨z, e1, g', j1.less kk, j2, z, rfl, e2⟩
      split at h2
      · rename_i v
        cases h2
        cases e with
        | panic ch =>
          obtain ⟨y, rfl, hy⟩ := i5
          show LeavesInM (FW none) 0 P fn a'.tmps _ a'.defers (.panicking _) w'
          rw [n2]
          exact leaves_marks (by simp) kk rs w' n1 n3 i1 i2 fun w2 j1 j2 j3 => ⟨g', j1.less kk, j2, y, rfl, hy.mono j3⟩
        | _ => cases i5
      · cases h2
      · rename_i hn1 hn2
        split at h2
        · cases h2
        · rename_i vs hvs
          cases x1 with
          | normal => rw [xr_normal i5]; exact ret vs hvs h2
          | ret => rw [xr_ret i5]; exact ret vs hvs h2
          | exit i => exact absurd rfl (hn2 i)
          | pan v => exact absurd rfl (hn1 v)

theorem post_of_cv {M : Nat → Prop} {w : World} {h1 : List ABlk} {x : AExit} {u : AVal} {out : AOut} (hk : (match x with
      | .pan v =>
        match peek2 h1 v with
        | some u => some (AOut.pan u)
        | none => none
      | _ =>
        match peek2 h1 u with
        | some u => some (AOut.ret u)
        | none => none) = some out) {e : Ending} {w' : World} (h : CvPost (fun b => b < w.heap.size) [] ⟨fun _ => Go.undef, M⟩ w h1 x u e w') : CPost M w out e w' := by
  obtain ⟨g', s1, l1, hx⟩ := h
  cases x with
  | exit i => exact hx.elim
  | ret => exact hx.elim
  | normal =>
    obtain ⟨z, rfl, hz⟩ := hx
    simp only at hk
    split at hk
    · rename_i u' hu
      cases hk
      obtain ⟨M', m1, m2, m3, m4, m5⟩ := out_of (s1 := ⟨[], h1⟩) s1 l1 hz hu
      exact ⟨M', m1, m2, m3, m4, z, rfl, m5⟩
    · cases hk
  | pan v =>
    obtain ⟨z, rfl, hz⟩ := hx
    simp only at hk
    split at hk
    · rename_i u' hu
      cases hk
      obtain ⟨M', m1, m2, m3, m4, m5⟩ := out_of (s1 := ⟨[], h1⟩) s1 l1 hz hu
      exact ⟨M', m1, m2, m3, m4, z, rfl, m5⟩
    · cases hk

theorem st_start {w : World} {M : Nat → Prop} (hM : ∀ b, M b → b < w.heap.size) : St (fun b => b < w.heap.size) [] ⟨fun _ => Go.undef, M⟩ w :=
  ⟨fun i b hb => by simp at hb, fun i j b hi => by obtain ⟨b, hb, _⟩ := hi; simp at hb, fun i b hi => by obtain ⟨b, hb, _⟩ := hi; simp at hb, hM, fun b hb => hb⟩

/-- A function is what the evaluator says of it. -/
theorem fn_ok (hm : P.follows .mixedOrders = true) (hT : TabOk P T) (hE : EnvOk P env) (N : Nat) {f : FuncId} {fn : Func} (hf : P.funcs[f]? = some fn) (hen : ∀ args w, (callFunc f args).run P w = .ok (.enter f args) w) : FspOk P f (evFn real T env N fn) where
  enter := hen
  nat := fun α args k => by
    unfold evFn
    rw [body_nat hE, body_nat hE (α := AOut)]
    cases evBody real T env N fn args [] tripE with
    | none => rfl
    | some p =>
      obtain ⟨x, v, h⟩ := p
      cases x <;> (simp only [Option.bind_some]; split <;> rfl)
  calls := fun args out hout M w cargs hM hl hr => by
    unfold evFn at hout
    rw [body_nat hE] at hout
    cases hq : evBody real T env N fn args [] tripE with
    | none => rw [hq] at hout; cases hout
    | some p =>
      obtain ⟨x, v, h⟩ := p
      rw [hq] at hout
      exact (body_calls hm hT hE N hf hq (st_start hM) hl hr).mono fun e w' hp => post_of_cv hout hp
end
end Go.Proofs.Ytleceelemogbcaa

/- The table of types, checked. -/
namespace Go.Proofs.Ytleceelemogbcaa

def eqS : AVal → AVal → Bool
  | .int j m, .int k n => decide (j = k) && decide (m = n)
  | .bool b, .bool c => b == c
  | .str s, .str t => decide (s = t)
  | .nils, .nils => true
  | .nilif, .nilif => true
  | .any, .any => true
  | _, _ => false

def eqL : List AVal → List AVal → Bool
  | [], [] => true
  | a :: r, b :: q => eqS a b && eqL r q
  | _, _ => false

def eqV : AVal → AVal → Bool
  | .agg cs, .agg ds => eqL cs ds
  | a, b => eqS a b

theorem eqS_spec {a b : AVal} (h : eqS a b = true) : a = b := by
  unfold eqS at h
  split at h
  · simp only [Bool.and_eq_true, decide_eq_true_eq] at h; rw [h.1, h.2]
  · rw [beq_iff_eq.1 h]
  · rw [of_decide_eq_true h]
  all_goals first | rfl | cases h

theorem eqL_spec : ∀ {a b : List AVal}, eqL a b = true → a = b
  | [], [], _ => rfl
  | a :: r, b :: q, h => by
    simp only [eqL, Bool.and_eq_true] at h
    rw [eqS_spec h.1, eqL_spec h.2]
  | [], _ :: _, h => by cases h
  | _ :: _, [], h => by cases h

theorem eqV_spec {a b : AVal} (h : eqV a b = true) : a = b := by
  unfold eqV at h
  split at h
  · rw [eqL_spec h]
  · exact eqS_spec h

def dB : TyD → TypeDesc → Bool
  | .int k, .int j => decide (j = k)
  | .bool, .bool => true
  | .str, .string => true
  | .sl x, .slice y => decide (y = x)
  | .arr n x, .array m y => decide (m = n) && decide (y = x)
  | .recd l, .struct fs => decide (fs.toList.map (fun f => (f.offset, f.type)) = l) && fs.toList.all (fun f => f.name != "_")
  | .ifc, .interface _ => true
  | .other, .struct _ => false
  | .other, .array _ _ => false
  | .other, .interface _ => false
  | .other, _ => true
  | _, _ => false

def zeroB : Option AVal → Option Value → Bool
  | none, _ => true
  | some z, some v => eqV (ofValue v) z
  | _, _ => false

def tyB (P : Program) (t : TypeId) (e : TyE) : Bool :=
  (match P.underlying t with
    | some d => dB e.d d && (match e.d with | .recd _ => !P.stoodInHeld t && !P.eqGuardType P.depth t | _ => true)
    | none => false) &&
  (match P.info? t with
    | some i => decide (i.size = e.size) && decide (i.bytes = e.bytes) && zeroB e.zero i.zero
    | none => false)

theorem ty_ok {P : Program} {t : TypeId} {e : TyE} (h : tyB P t e = true) : TyOk P t e := by
  unfold tyB at h
  simp only [Bool.and_eq_true] at h
  obtain ⟨h1, h2⟩ := h
  split at h1
  · rename_i d hd
    split at h2
    · rename_i i hi
      simp only [Bool.and_eq_true, decide_eq_true_eq] at h2
      obtain ⟨⟨h3, h4⟩, h5⟩ := h2
      refine ⟨?_, i, hi, h3, h4, fun z hz => ?_⟩
      · rw [hd]
        simp only [Bool.and_eq_true] at h1
        obtain ⟨h1, h1'⟩ := h1
        cases hx : e.d with
        | recd l =>
          rw [hx] at h1 h1'
          cases d <;> first | (simp [dB] at h1; done) | skip
          rename_i fs
          simp only [dB, Bool.and_eq_true, decide_eq_true_eq] at h1
          simp only [Bool.and_eq_true, Bool.not_eq_true'] at h1'
          exact ⟨fs, rfl, h1.1, h1'.1, h1'.2, fun f hf => by have := List.all_eq_true.1 h1.2 f hf; simpa using this⟩
        | _ => rw [hx] at h1 <;> cases d <;> simp_all [dB]
      · rw [hz] at h5
        cases hv : i.zero with
        | none => rw [hv] at h5; cases h5
        | some v => rw [hv] at h5; exact ⟨v, rfl, eqV_spec h5⟩
    · cases h2
  · cases h1

def tabB (P : Program) (T : Tab) : Bool := T.all fun p => tyB P p.1 p.2

theorem tab_at {t : TypeId} {e : TyE} : ∀ (T : Tab), T.at t = some e → (t, e) ∈ T
  | [], h => by cases h
  | (u, e') :: r, h => by
    simp only [Tab.at] at h
    split at h
    · rename_i hu
      cases h; subst hu; simp
    · exact List.mem_cons_of_mem _ (tab_at r h)

theorem tab_ok {P : Program} {T : Tab} (h : tabB P T = true) : TabOk P T := fun t e he =>
  ty_ok (List.all_eq_true.1 h (t, e) (tab_at T he))
end Go.Proofs.Ytleceelemogbcaa

/- Functions said in plain words: from the evaluator's text to a function on data. -/
namespace Go.Proofs.Ytleceelemogbcaa
open Go.RowKit

/-- Rows are no longer than the machine lets them be. -/
inductive Sm : AVal → Prop where
  | ro (e : Sh) (xs : List e.ty) : xs.length ≤ maxLen → (∀ (n : Nat) x (j : Nat) c, xs[n]? = some x → (e.cells x)[j]? = some c → Sm c) → Sm (.ro e xs)
  | agg (cs : List AVal) : (∀ (j : Nat) c, cs[j]? = some c → Sm c) → Sm (.agg cs)
  | rp (cs : List AVal) : (∀ (j : Nat) c, cs[j]? = some c → Sm c) → Sm (.rp cs)
  | fn (f : FuncId) (cs : List AVal) : (∀ (j : Nat) c, cs[j]? = some c → Sm c) → Sm (.fn f cs)
  | other (v : AVal) : (match v with | .ro _ _ | .agg _ | .rp _ | .fn _ _ => False | _ => True) → Sm v

theorem Rep.sm {h g w} {v : AVal} {x : Value} (r : Rep h g w v x) : Sm v := by
  induction r with
  | agg cs arr hl _ ih => exact .agg cs fun j c hc => ih j c _ hc (Array.getElem?_eq_getElem (by have := (List.getElem?_eq_some_iff.1 hc).1; omega))
  | fn f cs arr hl _ ih => exact .fn f cs fun j c hc => ih j c _ hc (Array.getElem?_eq_getElem (by have := (List.getElem?_eq_some_iff.1 hc).1; omega))
  | ro0 e p c hc hc' => exact .ro e [] (Nat.zero_le _) fun n x j c hn => by simp at hn
  | ro1 e xs b o c us h0 h1 h2 hm hc _ ih => exact .ro e xs (Nat.le_trans h1 h2) fun n x j cc hn hj => ih n x j cc hn hj
  | rp cs b o us hm hc _ ih => exact .rp cs fun j c hj => ih j c hj
  | _ => exact .other _ trivial

theorem Sm.len {e : Sh} {xs : List e.ty} (h : Sm (.ro e xs)) : xs.length ≤ maxLen := by
  cases h with
  | ro _ _ h1 _ => exact h1
  | other _ h => cases h

/-- A function on data. -/
def toFsp (F : List AVal → Option AOut) : Fsp := fun _ args k =>
  match F args with
  | some o => k o
  | none => none

theorem toFsp_nat (F : List AVal → Option AOut) (α : Type) (args : List AVal) (k : AOut → Option α) : toFsp F α args k = (toFsp F AOut args some).bind k := by
  unfold toFsp
  cases F args <;> rfl

theorem toFsp_some {F : List AVal → Option AOut} {args : List AVal} {out : AOut} (h : toFsp F AOut args some = some out) : F args = some out := by
  unfold toFsp at h
  cases hF : F args with
  | none => rw [hF] at h; cases h
  | some o => rw [hF] at h; exact h

section
variable {P : Program} {T : Tab} {env : Env}

theorem fsp_of (hm : P.follows .mixedOrders = true) (hT : TabOk P T) (hE : EnvOk P env) {f : FuncId} {fn : Func} (hf : P.funcs[f]? = some fn) (hen : ∀ args w, (callFunc f args).run P w = .ok (.enter f args) w)
    {F : List AVal → Option AOut} (hF : ∀ args out, (∀ c ∈ args, Sm c) → F args = some out → ∃ N, evFn real T env N fn AOut args some = some out) : FspOk P f (toFsp F) where
  enter := hen
  nat := toFsp_nat F
  calls := fun args out hout M w cargs hM hl hr => by
    have hsm : ∀ c ∈ args, Sm c := fun c hc => by
      obtain ⟨j, hj, rfl⟩ := List.mem_iff_getElem.1 hc
      exact (hr j _ _ (List.getElem?_eq_getElem hj) (Array.getElem?_eq_getElem (by omega))).sm
    obtain ⟨N, hN⟩ := hF args out hsm (toFsp_some hout)
    exact (fn_ok hm hT hE N hf hen).calls args out hN M w cargs hM hl hr

/-- Contracts alone; nothing is gone into. -/
def envF (fs : FuncId → Option Fsp) : Env := ⟨fs, fun _ => false, fun _ _ _ _ _ => none⟩

theorem cv_none : CvOk P fun _ _ _ _ _ => none := ⟨fun _ _ _ _ _ => rfl, fun _ _ _ _ _ _ hk => by cases hk⟩

theorem env_nil : EnvOk P (envF fun _ => none) := ⟨fun f S h => (by cases h), cv_none⟩

theorem env_cons {fs : FuncId → Option Fsp} {f : FuncId} {S : Fsp} (h : FspOk P f S) (hE : EnvOk P (envF fs)) : EnvOk P (envF fun g => if g = f then some S else fs g) := ⟨fun g S' hg => by
  simp only [envF] at hg
  split at hg
  · rename_i e
    cases hg; subst e; exact h
  · exact hE.fs g S' hg, cv_none⟩
end

/-- Rounds that are counted. -/
theorem iterL_count {σ α : Type} {f : σ → Option (LRes σ α)} (st : Nat → σ) {R : Option (LRes σ α)} (hR : ∀ y, R ≠ some (.cont y)) (n : Nat) (h : ∀ i, i < n → f (st i) = some (.cont (st (i + 1)))) (hend : f (st n) = R) :
    ∀ (m : Nat), m ≤ n → ∀ N, n - m < N → iterL N f (st m) = R := by
  intro m hm N
  induction N generalizing m with
  | zero => intro h; omega
  | succ N ih =>
    intro hN
    simp only [iterL]
    rcases Nat.lt_or_ge m n with hlt | hge
    · rw [h m hlt]
      exact ih (m + 1) hlt (by omega)
    · have : m = n := by omega
      subst this
      rw [hend]
      cases R with
      | none => rfl
      | some r =>
        cases r with
        | cont y => exact absurd rfl (hR y)
        | _ => rfl

/-- Rounds that are counted; one of them may end the loop. -/
theorem iterL_any {σ α : Type} {f : σ → Option (LRes σ α)} (st : Nat → σ) (p : Nat → Bool) {R E : Option (LRes σ α)} (hR : ∀ y, R ≠ some (.cont y)) (hE : ∀ y, E ≠ some (.cont y)) (n : Nat) (h : ∀ i, i < n → f (st i) = bif p i then R else some (.cont (st (i + 1)))) (hend : f (st n) = E) :
    iterL (n + 1) f (st 0) = bif (List.range n).any p then R else E := by
  have stop : ∀ (Z : Option (LRes σ α)), (∀ y, Z ≠ some (.cont y)) → ∀ N x, f x = Z → iterL (N + 1) f x = Z := fun Z hZ N x hx => by
    simp only [iterL, hx]
  have key : ∀ k, k ≤ n → iterL (k + 1) f (st (n - k)) = bif (List.range' (n - k) k).any p then R else E := fun k => by
    induction k with
    | zero => intro _; exact stop E hE 0 _ hend
    | succ k ih =>
      intro hk
      have e : n - k = n - (k + 1) + 1 := by omega
      have hf := h (n - (k + 1)) (by omega)
      rw [List.range'_succ, List.any_cons]
      cases hp : p (n - (k + 1))
      · rw [hp] at hf
        have := ih (by omega)
        rw [e] at this
        rw [Bool.false_or, ← this]
        conv => lhs; unfold iterL
        rw [hf]
        rfl
      · rw [hp] at hf
        exact stop R hR _ _ hf
  have := key n (Nat.le_refl _)
  rw [Nat.sub_self] at this
  rw [this, List.range_eq_range']

/-- Rounds that are counted; the first that ends the loop. -/
theorem iterL_find {σ α : Type} {f : σ → Option (LRes σ α)} (st : Nat → σ) (p : Nat → Bool) {R : Nat → Option (LRes σ α)} {E : Option (LRes σ α)} (hR : ∀ i y, R i ≠ some (.cont y)) (hE : ∀ y, E ≠ some (.cont y)) (n : Nat) (h : ∀ i, i < n → f (st i) = bif p i then R i else some (.cont (st (i + 1)))) (hend : f (st n) = E) :
    iterL (n + 1) f (st 0) = match (List.range n).find? p with | some i => R i | none => E := by
  have stop : ∀ (Z : Option (LRes σ α)), (∀ y, Z ≠ some (.cont y)) → ∀ N x, f x = Z → iterL (N + 1) f x = Z := fun Z hZ N x hx => by
    simp only [iterL, hx]
  have key : ∀ k, k ≤ n → iterL (k + 1) f (st (n - k)) = match (List.range' (n - k) k).find? p with | some i => R i | none => E := fun k => by
    induction k with
    | zero => intro _; exact stop E hE 0 _ hend
    | succ k ih =>
      intro hk
      have e : n - k = n - (k + 1) + 1 := by omega
      have hf := h (n - (k + 1)) (by omega)
      rw [List.range'_succ, List.find?_cons]
      cases hp : p (n - (k + 1))
      · rw [hp] at hf
        have := ih (by omega)
        rw [e] at this
        simp only
        rw [← this]
        conv => lhs; unfold iterL
        rw [hf]
        rfl
      · rw [hp] at hf
        exact stop _ (hR _) _ _ hf
  have := key n (Nat.le_refl _)
  rw [Nat.sub_self] at this
  rw [this, List.range_eq_range']

/-- The first place where something is so; -1: nowhere. -/
def fstI (q : Int → Bool) (xs : List Int) : Int := match (List.range xs.length).find? fun i => q (xs.getD i 0) with
  | some i => i
  | none => -1

theorem fin_not {σ α : Type} (o : Option α) (y : σ) : (finL o : Option (LRes σ α)) ≠ some (.cont y) := by
  cases o <;> simp [finL]
theorem brk_not {σ α : Type} (i : Nat) (x y : σ) : (some (.brk i x) : Option (LRes σ α)) ≠ some (.cont y) := by simp

theorem any_range (xs : List Int) (q : Int → Bool) : ((List.range xs.length).any fun i => q (xs.getD i 0)) = xs.any q := by
  rw [Bool.eq_iff_iff, List.any_eq_true, List.any_eq_true]
  constructor
  · rintro ⟨i, hi, hq⟩
    have hlt := List.mem_range.1 hi
    rw [List.getD_eq_getElem?_getD, List.getElem?_eq_getElem hlt] at hq
    exact ⟨_, List.getElem_mem hlt, hq⟩
  · rintro ⟨x, hx, hq⟩
    obtain ⟨i, hlt, rfl⟩ := List.mem_iff_getElem.1 hx
    refine ⟨i, List.mem_range.2 hlt, ?_⟩
    rw [List.getD_eq_getElem?_getD, List.getElem?_eq_getElem hlt]
    exact hq

theorem fst_any (q : Int → Bool) (xs : List Int) : decide (fstI q xs ≥ 0) = xs.any q := by
  rw [← any_range]
  unfold fstI
  cases h : (List.range xs.length).find? fun i => q (xs.getD i 0) with
  | none =>
    rw [List.find?_eq_none] at h
    symm
    simpa using h
  | some i =>
    have h1 := List.find?_some h
    have h2 := List.mem_of_find?_eq_some h
    rw [List.any_eq_true.2 ⟨i, h2, h1⟩]
    simp

theorem wrap_small {n : Nat} (h : n ≤ maxLen) : IntKind.i64.wrap (n : Int) = n := by
  have h2 : (n : Int) ≤ 9223372036854775807 := Int.ofNat_le.2 h
  simp [IntKind.wrap, IntKind.bits, IntKind.signed]
  omega
end Go.Proofs.Ytleceelemogbcaa

/- Calls of values, as deep as asked: functions gone into, rounds of ranges over functions. -/
namespace Go.Proofs.Ytleceelemogbcaa
open Go.RowKit

/-- What a call of one value does. -/
structure CvAt (P : Program) (cv : Cv) (v : AVal) : Prop where
  nat : ∀ (α : Type) args h (k : AExit → AVal → List ABlk → Option α), cv α v args h k = (cv _ v args h tripE).bind fun p => k p.1 p.2.1 p.2.2
  ok : ∀ args h x u h1, cv _ v args h tripE = some (x, u, h1) → ∀ (K : Nat → Prop) g w (fv : Value) (cargs : Array Value), St K h g w → Rep h g w v fv → args.length = cargs.size →
    (∀ (j : Nat) c z, args[j]? = some c → cargs[j]? = some z → Rep h g w c z) → CallV P fv cargs w (CvPost K h g w h1 x u)

theorem cv_of {P : Program} {cv : Cv} (h : ∀ v, CvAt P cv v) : CvOk P cv := ⟨fun α v => (h v).nat α, fun v => (h v).ok⟩

theorem CvPost.drop {K h g w h1 x u e w'} (p : CvPost K h g w h1 x u e w') (keep : List Nat) : CvPost K h g w (dropH keep h.length 0 h1) x u e w' := by
  obtain ⟨g', s1, l1, hx⟩ := p
  have al := drop_alike keep h.length h1
  refine ⟨g', al.st s1, drop_le keep l1, ?_⟩
  cases x with
  | normal => obtain ⟨z, h1, h2⟩ := hx; exact ⟨z, h1, al.rep h2⟩
  | pan v => obtain ⟨z, h1, h2⟩ := hx; exact ⟨z, h1, al.rep h2⟩
  | exit i => exact hx
  | ret => exact hx

theorem setTmps_rep {h g w} : ∀ (ps : List Nat) (args : List AVal) (cargs : List Value) (ts : List AVal) (tmps : Array Value), args.length = cargs.length → TRep h g w ts tmps →
    (∀ (j : Nat) c z, args[j]? = some c → cargs[j]? = some z → Rep h g w c z) → TRep h g w (setTmps ts ps args) ((ps.zip cargs).foldl (fun tmps (t, a) => tmps.setIfInBounds t a) tmps)
  | [], args, cargs, ts, tmps, _, ht, _ => by
    have : setTmps ts [] args = ts := by cases args <;> rfl
    rw [this]; exact ht
  | p :: ps, [], cargs, ts, tmps, hl, ht, _ => by
    have : cargs = [] := List.eq_nil_of_length_eq_zero (by simpa using hl.symm)
    subst this
    exact ht
  | p :: ps, a :: args, [], ts, tmps, hl, ht, _ => by simp at hl
  | p :: ps, a :: args, z :: cargs, ts, tmps, hl, ht, hr => by
    simp only [setTmps, List.zip_cons_cons, List.foldl_cons]
    refine setTmps_rep ps args cargs _ _ (by simpa using hl) ?_ fun j c z' h1 h2 => hr (j + 1) c z' (by simpa using h1) (by simpa using h2)
    have := TRep.put (s := ⟨ts, h⟩) (a := { tmps := tmps, defers := [] }) ht (some p) (hr 0 a z rfl rfl)
    exact this

section
variable {P : Program} {T : Tab} {env : Env}

theorem round_nat (hE : EnvOk P env) (N : Nat) (i : Nat) {α : Type} (args : List AVal) (h : List ABlk) (k : AExit → AVal → List ABlk → Option α) :
    evRound real T env N i args h k = (evRound real T env N i args h tripE).bind fun p => k p.1 p.2.1 p.2.2 := by
  unfold evRound
  split
  · rename_i ps asg bo _
    split
    · cases hasRange asg || hasRange bo
      · simp only [cond_false]
        refine bind_nat (e := fun k => ev real T env N asg _ k) (fun k => ev_nat hE N asg _ k) (fun p : AExit × AVal × List ABlk => k p.1 p.2.1 p.2.2) fun x s' => ?_
        cases x with
        | normal =>
          simp only
          split
          · rename_i pend tmps ps' asg' bo' _
            refine bind_nat (e := fun k => ev real T env N bo _ k) (fun k => ev_nat hE N bo _ k) (fun p : AExit × AVal × List ABlk => k p.1 p.2.1 p.2.2) fun x s' => ?_
            split
            · cases x <;> rfl
            · rfl
          · rfl
        | exit i => rfl
        | ret => rfl
        | pan v => rfl
      · rfl
    · rfl
  · rfl

theorem round_ok (hm : P.follows .mixedOrders = true) (hT : TabOk P T) (hE : EnvOk P env) (N : Nat) (i : Nat) {args : List AVal} {h h1 : List ABlk} {x : AExit} {u : AVal} (hk : evRound real T env N i args h tripE = some (x, u, h1))
    {K : Nat → Prop} {g : Gh} {w : World} {fv : Value} {cargs : Array Value} (hs : St K h g w) (hv : Rep h g w (.yld i) fv) (hl : args.length = cargs.size) (hr : ∀ (j : Nat) c z, args[j]? = some c → cargs[j]? = some z → Rep h g w c z) : CallV P fv cargs w (CvPost K h g w h1 x u) := by
  unfold evRound at hk
  split at hk
  case h_2 => cases hk
  rename_i st0 pend ts ps asg bo hh
  have hi := getD_some (by simp) hh
  split at hk
  case isFalse => cases hk
  rename_i hlen
  cases hrg : hasRange asg || hasRange bo
  case true => rw [hrg] at hk; cases hk
  rw [hrg] at hk
  simp only [cond_false] at hk
  simp only [Bool.or_eq_false_iff] at hrg
  obtain ⟨hr1, hr2⟩ := hrg
  obtain ⟨l, arr, fn, Dd, d1, d2, d3, d4⟩ := hs.blk i _ hi
  have hfv : fv = .func (.yield l) #[] #[] := by
    cases hv with
    | yld _ _ _ _ h3 => rw [h3 _ _ _ _ _ _ hi, d1]
  have hy := run_yield (P := P) (args := cargs) d2 (by simp; omega)
  refine .inr ⟨l, _, _, _, _, hfv, hy, ?_⟩
  obtain ⟨y, s2, e1, e2⟩ := ev_pair hE hk
  have ht0 : TRep h g w (setTmps ts ps args) ((ps.toArray.zip cargs).foldl (fun tmps (t, a) => tmps.setIfInBounds t a) arr) := by
    have := setTmps_rep (h := h) (g := g) (w := w) ps args cargs.toList ts arr (by simpa using hl) ⟨d3.symm, d4⟩ (fun j c z hc hz => hr j c z hc (by simpa using hz))
    rw [← Array.foldl_toList]
    simpa using this
  refine roundIn_of_wpIn trivial ?_
  refine ev_wp (ro := some l) (K0 := K) hm hT hE N asg _ y s2 _ w g K _ (fun _ h => h) (fun _ => hr1) e1 hs ht0 MRep.nil ⟨fun K1 g1 a1 w1 e kk i1 i2 i3 i4 i5 => ?_⟩
  cases y with
  | exit j => cases e2
  | ret => cases e2
  | pan v => cases e2
  | normal =>
    rw [xr_normal i5]
    simp only at e2
    split at e2
    case h_2 => cases e2
    rename_i pend2 ts2 ps2 asg2 bo2 hh2
    have hi2 := getD_some (by simp) hh2
    have same2 : ts2 = ts ∧ ps2 = ps ∧ asg2 = asg ∧ bo2 = bo ∧ g1.ρ i = g.ρ i := by
      obtain ⟨_, _, q1, q2⟩ := i2.lp i _ _ _ _ _ _ (Here.of hi (by simp)) hi2
      rw [hi] at q1
      cases q1
      exact ⟨rfl, rfl, rfl, rfl, q2⟩
    obtain ⟨rfl, rfl, rfl, rfl, hρ1⟩ := same2
    obtain ⟨l1, r1, f1, f2, f3, f4, f5, f6, f7, f8, l12, s12⟩ := lp_set i1 hi2 .busy pend2
    have hl1 : l1 = l := by rw [hρ1, d1] at f1; cases f1; rfl
    subst hl1
    have hrec : ({ r1 with state := .busy, pending := pend2 } : Loop) = { r1 with state := .busy } := by cases r1; simp_all
    rw [hrec] at l12 s12
    refine ⟨_, run_beginRound f2 f3, ?_⟩
    obtain ⟨y3, s3, e3, e4⟩ := ev_pair hE e2
    refine ev_wp (ro := some l1) (K0 := K) hm hT hE N bo2 _ y3 s3 a1 _ g1 K1 _ kk (fun _ => hr2) e3 s12 (i3.mono l12) (i4.mono l12) ⟨fun K2 g3 a3 w3 e' kk2 j1 j2 j3 j4 j5 => ?_⟩
    split at e4
    case h_2 => cases e4
    rename_i st4 pend4 ts4 ps4 asg4 bo4 hh4
    have hi4 := getD_some (by simp) hh4
    have hρ3 : g3.ρ i = g.ρ i := by
      have hlt : i < s2.heap.length := (List.getElem?_eq_some_iff.1 hi2).1
      obtain ⟨_, _, _, q2⟩ := j2.lp i _ _ _ _ _ _ (Here.of (b := .lp .busy pend2 ts2 ps2 asg2 bo2) (by simp only; rw [List.getElem?_set, if_pos rfl, if_pos hlt]) (by simp)) hi4
      rw [q2, hρ1]
    -- behind the round
    have fin : ∀ (st5 : LoopState) (p5 : Option Code) (b : Bool), st5 = (if p5.isNone then .ready else .done) → b = p5.isNone → tripE .normal (.bool b) (s3.heap.set i (.lp st5 p5 ts4 ps4 asg4 bo4)) = some (x, u, h1) →
        ∃ v w', (Instr.endRound l1 p5).run P w3 = .ok v w' ∧ CvPost K h g w h1 x u (.returned v) w' := fun st5 p5 b hst hb he => by
      obtain ⟨l3, r3, g31, g32, g33, _, _, _, _, _, l34, s34⟩ := lp_set j1 hi4 st5 p5
      have hl3 : l3 = l1 := by rw [hρ3, d1] at g31; cases g31; rfl
      subst hl3
      cases he
      refine ⟨_, _, run_endRound p5 g32, g3, ?_, ?_, .bool p5.isNone, rfl, by rw [hb]; exact .bool _⟩
      · rw [← hst]; exact s34.less fun b hb => kk2 b (kk b hb)
      · rw [← hst]
        exact ((i2.trans (l12.less kk)).trans (j2.less kk)).trans (l34.less fun b hb => kk2 b (kk b hb))
    cases y3 with
    | normal =>
      rw [xr_normal j5]
      exact fin .ready none true rfl rfl e4
    | ret =>
      rw [xr_ret j5]
      exact fin .done (some .ret) false rfl rfl e4
    | exit id =>
      rw [xr_exit j5]
      exact fin .done (some (.exit id)) false rfl rfl e4
    | pan v => cases e4

/-- A function that is gone into. -/
structure FnOk (P : Program) (f : FuncId) (fn : Func) : Prop where
  get : P.funcs[f]? = some fn
  enter : ∀ args w, (callFunc f args).run P w = .ok (.enter f args) w

structure TwOk (P : Program) (tw : Tower) : Prop where
  fs : ∀ f S, tw.fs f = some S → FspOk P f S
  sp : ∀ f S, tw.sp f = some S → ∀ cv, CvOk P cv → ∀ caps, CvAt P (S cv) (.fn f caps)
  fn : ∀ f fn, tw.fn f = some fn → FnOk P f fn

theorem args_caps {h g w} {args caps : List AVal} {cargs carr : Array Value} (hl : args.length = cargs.size) (hcl : caps.length = carr.size) (hr : ∀ (j : Nat) c z, args[j]? = some c → cargs[j]? = some z → Rep h g w c z) (hcr : ∀ (j : Nat) c z, caps[j]? = some c → carr[j]? = some z → Rep h g w c z) :
    (args ++ caps).length = (cargs ++ carr).size ∧ ∀ (j : Nat) c z, (args ++ caps)[j]? = some c → (cargs ++ carr)[j]? = some z → Rep h g w c z := by
  refine ⟨by simp [hl, hcl], fun j c z hc hz => ?_⟩
  rcases Nat.lt_or_ge j args.length with hj | hj
  · rw [List.getElem?_append_left hj] at hc
    rw [Array.getElem?_append_left (by omega)] at hz
    exact hr j c z hc hz
  · rw [List.getElem?_append_right hj] at hc
    rw [Array.getElem?_append_right (by omega), ← hl] at hz
    exact hcr _ c z hc hz

theorem none_at {cv : Cv} {v : AVal} (h : ∀ (α : Type) args hp (k : AExit → AVal → List ABlk → Option α), cv α v args hp k = none) : CvAt P cv v := ⟨fun α args hp k => by rw [h, h]; rfl, fun args hp x u h1 hk => by rw [h] at hk; cases hk⟩

theorem tower_cv {tw : Tower} (hm : P.follows .mixedOrders = true) (hT : TabOk P T) (ht : TwOk P tw) (N : Nat) : ∀ n, CvOk P (cvN real T tw N n)
  | 0 => cv_of fun v => none_at fun _ _ _ _ => rfl
  | n + 1 => cv_of fun v => by
    have ih := tower_cv hm hT ht N n
    have hE : EnvOk P ⟨tw.fs, tw.pr, cvN real T tw N n⟩ := ⟨ht.fs, ih⟩
    cases v with
    | fn f caps =>
      cases hsp : tw.sp f with
      | some S =>
        have e : ∀ (α : Type) args hp (k : AExit → AVal → List ABlk → Option α), cvN real T tw N (n + 1) α (.fn f caps) args hp k = S (cvN real T tw N n) α (.fn f caps) args hp k := fun α args hp k => by simp only [cvN, hsp]
        have := ht.sp f S hsp _ ih caps
        exact ⟨fun α args hp k => by rw [e, e]; exact this.nat α args hp k, fun args hp x u h1 hk => by rw [e] at hk; exact this.ok args hp x u h1 hk⟩
      | none =>
        cases hfs : tw.fs f with
        | some S =>
          have e : ∀ (α : Type) args hp (k : AExit → AVal → List ABlk → Option α), cvN real T tw N (n + 1) α (.fn f caps) args hp k = evPure S false (args ++ caps) hp k := fun α args hp k => by simp only [cvN, hsp, hfs]
          have hok := ht.fs f S hfs
          refine ⟨fun α args hp k => by rw [e, e]; exact evPure_nat hok .., fun args hp x u h1 hk K g w fv cargs hs hv hl hr => ?_⟩
          rw [e] at hk
          cases hv with
          | fn _ _ arr a1 a2 =>
            obtain ⟨b1, b2⟩ := args_caps hl a1 hr a2
            exact .inl ⟨f, arr, rfl, fun w => hok.enter _ w, pure_calls hok hs false _ _ b1 b2 hk⟩
        | none =>
          cases hfn : tw.fn f with
          | none => exact none_at fun _ _ _ _ => by simp only [cvN, hsp, hfs, hfn]
          | some fn =>
            have e : ∀ (α : Type) args hp (k : AExit → AVal → List ABlk → Option α), cvN real T tw N (n + 1) α (.fn f caps) args hp k = evBody real T ⟨tw.fs, tw.pr, cvN real T tw N n⟩ N fn (args ++ caps) hp fun x v h' => k x v (dropH (keepB h' hp.length v) hp.length 0 h') := fun α args hp k => by simp only [cvN, hsp, hfs, hfn]
            have hok := ht.fn f fn hfn
            refine ⟨fun α args hp k => ?_, fun args hp x u h1 hk K g w fv cargs hs hv hl hr => ?_⟩
            · rw [e, e, body_nat hE N fn (args ++ caps) hp (fun x v h' => k x v (dropH (keepB h' hp.length v) hp.length 0 h')), body_nat hE N fn (args ++ caps) hp (fun x v h' => tripE x v (dropH (keepB h' hp.length v) hp.length 0 h'))]
              cases evBody real T ⟨tw.fs, tw.pr, cvN real T tw N n⟩ N fn (args ++ caps) hp tripE <;> rfl
            · rw [e, body_nat hE] at hk
              cases hq : evBody real T ⟨tw.fs, tw.pr, cvN real T tw N n⟩ N fn (args ++ caps) hp tripE with
              | none => rw [hq] at hk; cases hk
              | some p =>
                obtain ⟨x', u', h'⟩ := p
                rw [hq] at hk
                cases hk
                cases hv with
                | fn _ _ arr a1 a2 =>
                  obtain ⟨b1, b2⟩ := args_caps hl a1 hr a2
                  exact .inl ⟨f, arr, rfl, fun w => hok.enter _ w, (body_calls hm hT hE N hok.get hq hs b1 b2).mono fun e w' hp => hp.drop _⟩
    | yld i =>
      exact ⟨fun α args hp k => round_nat hE N i args hp k, fun args hp x u h1 hk K g w fv cargs hs hv hl hr => round_ok hm hT hE N i hk hs hv hl hr⟩
    | _ => exact none_at fun _ _ _ _ => rfl

theorem tower_ok {tw : Tower} (hm : P.follows .mixedOrders = true) (hT : TabOk P T) (ht : TwOk P tw) (N n : Nat) : EnvOk P (tw.env real T N n) := ⟨ht.fs, tower_cv hm hT ht N n⟩

/-- A function, gone into as deep as asked. -/
theorem tower_fsp {tw : Tower} (hm : P.follows .mixedOrders = true) (hT : TabOk P T) (ht : TwOk P tw) {f : FuncId} {fn : Func} (hf : FnOk P f fn)
    {F : List AVal → Option AOut} (hF : ∀ args out, (∀ c ∈ args, Sm c) → F args = some out → ∃ N n, evFn real T (tw.env real T N n) N fn AOut args some = some out) : FspOk P f (toFsp F) where
  enter := hf.enter
  nat := toFsp_nat F
  calls := fun args out hout M w cargs hM hl hr => by
    have hsm : ∀ c ∈ args, Sm c := fun c hc => by
      obtain ⟨j, hj, rfl⟩ := List.mem_iff_getElem.1 hc
      exact (hr j _ _ (List.getElem?_eq_getElem hj) (Array.getElem?_eq_getElem (by omega))).sm
    obtain ⟨N, n, hN⟩ := hF args out hsm (toFsp_some hout)
    exact (fn_ok hm hT (tower_ok hm hT ht N n) N hf.get hf.enter).calls args out hN M w cargs hM hl hr
end
end Go.Proofs.Ytleceelemogbcaa
