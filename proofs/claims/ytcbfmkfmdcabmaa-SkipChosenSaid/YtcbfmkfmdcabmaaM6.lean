/- Parts of the proof, in build order. -/
import Derived.Test.YtcbfmkfmdcabmaaM5
import Derived.LoopNIn
import Derived.Scope
import Derived.RangeFuncLeaves
import Derived.Laws.Sem
import Derived.Test.YtcbfmkfmdcabmaaM1
import Derived.Test.YtcbfmkfmdcabmaaProg
import Derived.WalkKit
namespace Go.Proofs.Ytcbfmkfmdcabmaa
open Go.RowKit
section
variable {ro : Option Nat} {P : Program} {T : Tab} {env : Env} {α : Type} {ops : Array Oper} {r : α} {K : Nat → Prop} {Q : Exit → Act → World → Prop}
inductive Waits (ops : Array Oper) : Nat → Nat → Prop where
  | one (i : Nat) (o : Oper) (e : Edge) : ops[i]? = some o → e ∈ o.after → Region.binds .any e = true → Waits ops i e.on
  | more (i j l : Nat) : Waits ops i j → Waits ops j l → Waits ops i l
theorem waitsL_spec : ∀ (rest : List Oper) (acc : List (List Nat)), ops.toList.drop acc.length = rest → (∀ i j, j ∈ acc.getD i [] → Waits ops i j) → ∀ i j, j ∈ (waitsL rest acc).getD i [] → Waits ops i j
  | [], acc, _, ha => ha
  | o :: rest, acc, hd, ha => by
    simp only [waitsL]
    refine waitsL_spec rest _ (by rw [List.length_append, ← List.drop_drop, hd]; rfl) fun i j hj => ?_
    rw [List.getD_eq_getElem?_getD] at hj
    rcases Nat.lt_trichotomy i acc.length with h | h | h
    · rw [List.getElem?_append_left h, ← List.getD_eq_getElem?_getD] at hj
      exact ha i j hj
    · subst h
      rw [List.getElem?_append_right (Nat.le_refl _), Nat.sub_self] at hj
      simp only [List.getElem?_cons_zero, Option.getD_some, mem_dedup, List.mem_append, List.mem_filterMap, List.mem_flatMap] at hj
      have hio : ops[acc.length]? = some o := by
        have : (ops.toList.drop acc.length)[0]? = some o := by rw [hd]; rfl
        rw [List.getElem?_drop] at this; simpa using this
      have dir : ∀ l, (∃ e, e ∈ o.after.toList ∧ (bif Region.binds .any e then some e.on else none) = some l) → Waits ops acc.length l := by
        rintro l ⟨e, he, hl⟩
        cases hb : Region.binds .any e
        · rw [hb] at hl; cases hl
        · rw [hb] at hl
          simp only [cond_true, Option.some.injEq] at hl
          subst hl
          exact .one _ o e hio (by simpa using he) hb
      rcases hj with h | ⟨l, h, h'⟩
      · exact dir j h
      · exact .more _ l _ (dir l h) (ha l j h')
    · rw [List.getElem?_eq_none (by simp; omega)] at hj
      simp at hj
theorem waitsL_old : ∀ (rest : List Oper) (acc : List (List Nat)) (i : Nat), i < acc.length → (waitsL rest acc)[i]? = acc[i]?
  | [], acc, i, _ => rfl
  | o :: rest, acc, i, hi => by
    simp only [waitsL]
    rw [waitsL_old rest _ i (by simp; omega), List.getElem?_append_left hi]
theorem waitsL_more : ∀ (rest : List Oper) (acc : List (List Nat)) (i : Nat) (o : Oper), rest[i - acc.length]? = some o → acc.length ≤ i → ∀ e ∈ o.after, Region.binds .any e = true → e.on < i →
    ∀ p ∈ (waitsL rest acc).getD e.on [], p ∈ (waitsL rest acc).getD i []
  | [], acc, i, o, ho, _ => by simp at ho
  | o' :: rest, acc, i, o, ho, hi => by
    intro e he hb hlt p hp
    simp only [waitsL] at hp ⊢
    rcases Nat.eq_or_lt_of_le hi with rfl | h
    · rw [Nat.sub_self] at ho
      simp only [List.getElem?_cons_zero, Option.some.injEq] at ho
      subst ho
      rw [List.getD_eq_getElem?_getD, waitsL_old _ _ _ (by simp; omega), List.getElem?_append_left hlt, ← List.getD_eq_getElem?_getD] at hp
      rw [List.getD_eq_getElem?_getD, waitsL_old _ _ _ (by simp), List.getElem?_append_right (Nat.le_refl _), Nat.sub_self]
      simp only [List.getElem?_cons_zero, Option.getD_some, mem_dedup, List.mem_append, List.mem_filterMap, List.mem_flatMap]
      exact .inr ⟨e.on, ⟨e, by simpa using he, by rw [hb]; rfl⟩, hp⟩
    · refine waitsL_more rest _ i o ?_ (by simp; omega) e he hb hlt p hp
      rw [List.length_append, List.length_singleton, ← ho, show i - acc.length = (i - (acc.length + 1)) + 1 by omega, List.getElem?_cons_succ]
def unl (ops : Array Oper) (listed : Array Bool) : List Nat := (List.range ops.size).filter fun i => !listed.getD i true
def Closed (ops : Array Oper) (listed : Array Bool) : Prop := ∀ i o, ops[i]? = some o → listed.getD i false = true → ∀ e ∈ o.after, Region.binds .any e = true → listed.getD e.on false = true
theorem waits_listed {listed : Array Bool} (hc : Closed ops listed) {i j : Nat} (hw : Waits ops i j) : (∀ o, ops[i]? = some o → ∀ e ∈ o.after, Region.binds .any e = true → listed.getD e.on false = true) → listed.getD j false = true := by
  induction hw with
  | one i o e ho he hb => intro h; exact h o ho e he hb
  | more i j l _ _ ih1 ih2 =>
    intro h
    have hj := ih1 h
    exact ih2 fun o ho e he hb => hc j o ho hj e he hb
theorem mem_unl {listed : Array Bool} {i : Nat} : i ∈ unl ops listed ↔ i < ops.size ∧ listed.getD i true = false := by
  simp [unl]
theorem unl_lt {listed : Array Bool} : List.Pairwise (· < ·) (unl ops listed) := List.Pairwise.filter _ (List.pairwise_lt_range)
theorem unl_set {listed : Array Bool} (hs : listed.size = ops.size) {i : Nat} (hil : i < ops.size) : unl ops (listed.setIfInBounds i true) = (unl ops listed).filter (· != i) := by
  unfold unl
  rw [List.filter_filter]
  refine List.filter_congr fun j hj => ?_
  by_cases e : j = i
  · subst e
    simp [hs, hil]
  · have : i ≠ j := fun e' => e e'.symm
    have hne : (j != i) = true := by simpa using e
    rw [hne, Bool.true_and]
    simp only [Array.getD_eq_getD_getElem?, Array.getElem?_setIfInBounds, if_neg this]
theorem map_front {f : Nat → Bool} {U : List Nat} {pre post : List En} {e : En} (hU : U.Pairwise (· < ·)) (h : (pre ++ e :: post).map (·.1) = U.filter f) : (pre ++ post).map (·.1) = (U.filter (· != e.1)).filter f := by
  have hp : ((pre ++ e :: post).map (·.1)).Pairwise (· < ·) := by rw [h]; exact List.Pairwise.filter _ hU
  have e1 : (U.filter (· != e.1)).filter f = (U.filter f).filter (· != e.1) := by
    rw [List.filter_filter, List.filter_filter]
    refine List.filter_congr fun j _ => ?_
    rw [Bool.and_comm]
  rw [e1, ← h]
  rw [List.map_append, List.map_cons] at hp
  rw [List.map_append, List.map_append, List.map_cons]
  rw [List.pairwise_append, List.pairwise_cons] at hp
  obtain ⟨_, ⟨h1, _⟩, h2⟩ := hp
  rw [List.filter_append, List.filter_cons_of_neg (by simp)]
  congr 1
  · exact (List.filter_eq_self.2 fun j hj => by have := h2 j hj e.1 (by simp); simp; omega).symm
  · exact (List.filter_eq_self.2 fun j hj => by have := h1 j hj; simp; omega).symm
def SeqL (ops : Array Oper) (L : List En) : Prop := ∃ e ∈ L, e.2.2 = true ∧ ∀ e' ∈ L, e'.1 = e.1 ∨ (((waitsL ops.toList []).getD e.1 []).contains e'.1 = true ∧ e'.2.2 = false)
structure Left (T : Tab) (env : Env) (ops : Array Oper) (hb : List ABlk) (m : Nat) (s' : AS) (pan' : Pd) (listed : Array Bool) (L : List En) (st : AS) : Prop where
  size : listed.size = ops.size
  closed : Closed ops listed
  fold : foldE T env ops hb.length L (st, none) = some (s', pan'.map (·.2))
  pans : ∀ ps u, pan' = some (ps, u) → ∀ j ∈ ps, ∃ e ∈ L, e.1 = j ∧ e.2.2 = true
  map : L.map (·.1) = (unl ops listed).filter fun j => !offD (waitsL ops.toList []) j pan'
  edge : ∀ e ∈ L, ∃ o, ops[e.1]? = some o ∧ edgeB o e.1 = true
  pair : L.Pairwise fun a b => ((waitsL ops.toList []).getD b.1 []).contains a.1 = true ∨ IndE env ops a b
  high : pan' = none ∨ ((∀ e ∈ L, highB hb.length e.2.1 = true) ∧ (st.heap.length = hb.length + m ∧ ∀ i, i < hb.length → st.heap[i]? = hb[i]?) ∧ s'.heap.length = hb.length + m ∧ s'.heap.take hb.length = hb) ∨ SeqL ops L
section
variable {hb : List ABlk} {m : Nat} {s' : AS} {pan' : Pd} {listed : Array Bool} {L : List En} {st : AS}
theorem getD_listed (hs : listed.size = ops.size) {j : Nat} (hj : j < ops.size) : listed.getD j true = listed.getD j false := by
  have : j < listed.size := by omega
  simp only [Array.getD_eq_getD_getElem?, Array.getElem?_eq_getElem this, Option.getD_some]
theorem waits_of {i j : Nat} (h : ((waitsL ops.toList []).getD i []).contains j = true) : Waits ops i j :=
  waitsL_spec (ops := ops) ops.toList [] rfl (fun i j h => by simp at h) i j (by simpa using h)
theorem Left.mem (l : Left T env ops hb m s' pan' listed L st) {i : Nat} : i ∈ L.map (·.1) ↔ i ∈ unl ops listed ∧ offD (waitsL ops.toList []) i pan' = false := by
  rw [l.map, List.mem_filter, Bool.not_eq_true']
theorem Left.ready (l : Left T env ops hb m s' pan' listed L st) {i : Nat} (hi : i ∈ Region.ready .any ops listed) : ∃ pre F post o, L = pre ++ (i, F) :: post ∧ ops[i]? = some o ∧ ∀ a ∈ pre, IndE env ops a (i, F) := by
  obtain ⟨hun, o, ho, hall⟩ := mem_ready.1 hi
  have hiu : i ∈ unl ops listed := mem_unl.2 ⟨(Array.getElem?_eq_some_iff.1 ho).1, hun⟩
  have no : ∀ j, ((waitsL ops.toList []).getD i []).contains j = true → j ∈ unl ops listed → False := fun j hw hj => by
    have hjl := waits_listed l.closed (waits_of hw) fun o' ho' => by rw [ho] at ho'; cases ho'; exact hall
    obtain ⟨hj1, hj2⟩ := mem_unl.1 hj
    rw [getD_listed l.size hj1, hjl] at hj2
    cases hj2
  have him : i ∈ L.map (·.1) := l.mem.2 ⟨hiu, by
    cases hp : pan' with
    | none => rfl
    | some q =>
      cases hc : offD (waitsL ops.toList []) i (some q) with
      | false => rfl
      | true =>
        obtain ⟨ps, u⟩ := q
        simp only [offD, List.any_eq_true] at hc
        obtain ⟨j, hj, hw⟩ := hc
        obtain ⟨e, he, hej, _⟩ := l.pans ps u hp j hj
        exact (no j hw (l.mem.1 (by rw [← hej]; exact List.mem_map.2 ⟨e, he, rfl⟩)).1).elim⟩
  obtain ⟨⟨i', F⟩, he, e⟩ := List.mem_map.1 him
  simp only at e
  subst e
  obtain ⟨pre, post, hpp⟩ := List.append_of_mem he
  refine ⟨pre, F, post, o, hpp, ho, fun a ha => ?_⟩
  have hp := l.pair
  rw [hpp, List.pairwise_append] at hp
  rcases hp.2.2 a ha _ (List.mem_cons_self ..) with h | h
  · exact (no a.1 h (l.mem.1 (by rw [hpp]; exact List.mem_map.2 ⟨a, List.mem_append_left _ ha, rfl⟩)).1).elim
  · exact h
theorem Left.done (l : Left T env ops hb m s' pan' listed L st) (hr : Region.ready .any ops listed = []) : s' = st ∧ pan' = none := by
  have hL : L = [] := by
    cases hL : L with
    | nil => rfl
    | cons e post =>
      exfalso
      obtain ⟨o, ho, hedge⟩ := l.edge e (by rw [hL]; simp)
      have him := l.mem.1 (show e.1 ∈ L.map (·.1) by rw [hL]; simp)
      obtain ⟨h1, h2⟩ := mem_unl.1 him.1
      have hlt : (L.map (·.1)).Pairwise (· < ·) := by rw [l.map]; exact List.Pairwise.filter _ unl_lt
      rw [hL, List.map_cons, List.pairwise_cons] at hlt
      have : e.1 ∈ Region.ready .any ops listed := mem_ready.2 ⟨h2, o, ho, fun d hd hbd => by
        have hon : d.on < e.1 := by
          have := Array.all_eq_true'.1 hedge d hd
          simp only [hbd, Bool.not_true, Bool.false_or, decide_eq_true_eq] at this
          exact this
        cases hcl : listed.getD d.on false with
        | true => rfl
        | false =>
          exfalso
          have hdu : d.on ∈ unl ops listed := mem_unl.2 ⟨by omega, by rw [getD_listed l.size (by omega)]; exact hcl⟩
          have hoff : offD (waitsL ops.toList []) d.on pan' = false := by
            cases hp : pan' with
            | none => rfl
            | some q =>
              cases hc : offD (waitsL ops.toList []) d.on (some q) with
              | false => rfl
              | true =>
                obtain ⟨ps, u⟩ := q
                simp only [offD, List.any_eq_true, List.contains_eq_mem, decide_eq_true_eq] at hc
                obtain ⟨j, hj, h3⟩ := hc
                have h4 := waitsL_more ops.toList [] e.1 o (by simpa using ho) (Nat.zero_le _) d hd hbd hon _ h3
                have h5 := him.2
                rw [hp] at h5
                simp only [offD, List.any_eq_false, List.contains_eq_mem, decide_eq_true_eq] at h5
                exact absurd h4 (h5 j hj)
          have hm := l.mem.2 ⟨hdu, hoff⟩
          rw [hL, List.map_cons] at hm
          rcases List.mem_cons.1 hm with h | h
          · omega
          · have := hlt.1 _ h; omega⟩
      rw [hr] at this
      cases this
  have := l.fold
  rw [hL] at this
  simp only [foldE, Option.some.injEq, Prod.mk.injEq] at this
  refine ⟨this.1.symm, ?_⟩
  cases hp : pan' with
  | none => rfl
  | some q => rw [hp] at this; cases this.2
theorem Left.step (hE : EnvOk P env) (l : Left T env ops hb m s' pan' listed L st) {i : Nat} (hi : i ∈ Region.ready .any ops listed) : ∃ o x v h1 p, ops[i]? = some o ∧ outD T env ops (placeOf hb.length ops.toList i) o st = some (x, v, h1) ∧ panD x none = some p ∧
    (p = none → ∃ L', L'.length < L.length ∧ Left T env ops hb m s' pan' (listed.setIfInBounds i true) L' (appD o st x v h1)) ∧
    (∀ q, p = some q → pan'.map (·.2) = some q ∧ (((h1.length = hb.length + m ∧ ∀ i, i < hb.length → h1[i]? = hb[i]?) ∧ s'.heap.length = hb.length + m ∧ s'.heap.take hb.length = hb) ∨ s'.heap = h1)) := by
  obtain ⟨pre, F, post, o, hpp, ho, hind⟩ := l.ready hi
  obtain ⟨hun, o', ho', hall'⟩ := mem_ready.1 hi
  rw [ho] at ho'; cases ho'
  have hf := l.fold
  rw [hpp] at hf
  obtain ⟨t, hst, hft⟩ := fold_front hE pre post _ _ hind hf
  obtain ⟨o', x, v, h1, p, i1, i2, i3, i4, rfl⟩ := stepE_some hst
  rw [ho] at i1; cases i1
  have hhigh : pan' = none ∨ ((h1.length = hb.length + m ∧ ∀ i, i < hb.length → h1[i]? = hb[i]?) ∧ s'.heap.length = hb.length + m ∧ s'.heap.take hb.length = hb) ∨ SeqL ops L := by
    rcases l.high with h | ⟨a1, ⟨a2, a3⟩, a4⟩ | h
    rotate_left 2
    · exact .inr (.inr h)
    · exact .inl h
    · refine .inr (.inl ?_)
      have hh := a1 (i, F) (by rw [hpp]; simp)
      obtain ⟨F, pn⟩ := F
      cases F with
      | none => cases hh
      | some q =>
        obtain ⟨F, W⟩ := q
        have lc := outD_local hE i2 i3
        refine ⟨⟨lc.len.trans a2, fun j hj => (lc.off j fun hm => ?_).trans (a3 j hj)⟩, a4⟩
        have := List.all_eq_true.1 hh j hm
        simp at this; omega
  refine ⟨o, x, v, h1, p, ho, i3, i4.2, fun hp => ?_, fun q hq => ?_⟩
  · subst hp
    refine ⟨pre ++ post, by rw [hpp]; simp, ?_⟩
    have sub : ∀ e ∈ pre ++ post, e ∈ L := fun e he => by
      rw [hpp]
      rcases List.mem_append.1 he with h | h
      · exact List.mem_append_left _ h
      · exact List.mem_append_right _ (List.mem_cons_of_mem _ h)
    have seqKeep : ∀ e ∈ L, e.2.2 = true → (∀ e' ∈ L, e'.1 = e.1 ∨ (((waitsL ops.toList []).getD e.1 []).contains e'.1 = true ∧ e'.2.2 = false)) → SeqL ops (pre ++ post) := fun e he hf hall => by
      refine ⟨e, ?_, hf, fun e' he' => hall e' (sub e' he')⟩
      rw [hpp] at he
      rcases List.mem_append.1 he with h | h
      · exact List.mem_append_left _ h
      · rcases List.mem_cons.1 h with h | h
        · exfalso
          subst h
          have i41 := i4.1
          rw [hf] at i41
          have i42 := i4.2
          cases x <;> first | cases i41 | skip
          cases i42
        · exact List.mem_append_right _ h
    exact {
      size := by simpa using l.size
      closed := by
        intro j oj hoj hjl e he hbd
        have up : ∀ n, listed.getD n false = true → (listed.setIfInBounds i true).getD n false = true := fun n hn => by
          simp only [Array.getD_eq_getD_getElem?, Array.getElem?_setIfInBounds] at hn ⊢
          split
          · split
            · rfl
            · rename_i h1 h2
              subst h1
              rw [Array.getElem?_eq_none (by omega)] at hn; simp at hn
          · exact hn
        by_cases e' : j = i
        · subst e'
          rw [ho] at hoj; cases hoj
          exact up _ (hall' e he hbd)
        · refine up _ (l.closed j oj hoj ?_ e he hbd)
          have : i ≠ j := fun h => e' h.symm
          simpa only [Array.getD_eq_getD_getElem?, Array.getElem?_setIfInBounds, if_neg this] using hjl
      fold := hft
      pans := fun ps u e j hj => by
        obtain ⟨e1, he1, a, b⟩ := l.pans ps u e j hj
        rw [hpp] at he1
        rcases List.mem_append.1 he1 with h | h
        · exact ⟨e1, List.mem_append_left _ h, a, b⟩
        · rcases List.mem_cons.1 h with h | h
          · exfalso
            subst h
            have i41 := i4.1
            rw [b] at i41
            have i42 := i4.2
            cases x <;> first | cases i41 | skip
            cases i42
          · exact ⟨e1, List.mem_append_right _ h, a, b⟩
      map := by
        have hm := l.map
        rw [hpp] at hm
        rw [unl_set l.size (Array.getElem?_eq_some_iff.1 ho).1]
        exact map_front (e := (i, F)) unl_lt hm
      edge := fun e he => l.edge e (sub e he)
      pair := l.pair.sublist (by rw [hpp]; exact (List.Sublist.refl pre).append (List.sublist_cons_self ..))
      high := by
        rcases hhigh with h | ⟨a2, a3⟩ | ⟨e, he, hf, hall⟩
        · exact .inl h
        · rcases l.high with h | ⟨a1, _, _⟩ | ⟨e, he, hf, hall⟩
          · exact .inl h
          · exact .inr (.inl ⟨fun e he => a1 e (sub e he), by rw [appD_heap]; exact a2, a3⟩)
          · exact .inr (.inr (seqKeep e he hf hall))
        · exact .inr (.inr (seqKeep e he hf hall)) }
  · have hk := foldE_keep _ _ _ hft hq
    refine ⟨hk, ?_⟩
    rcases hhigh with h | h | ⟨e, he, hf, hall⟩
    · rw [h] at hk; cases hk
    · exact .inl h
    · refine .inr ?_
      -- what panics is the one that waits for all: nothing else is left
      have hFp : F.2 = true := by
        have i41 := i4.1
        have i42 := i4.2
        rw [hq] at i42
        cases x with
        | pan v => exact i41.symm
        | normal => cases i42
        | exit j => cases i42
        | ret => cases i42
      have hie : i = e.1 := by
        rcases hall (i, F) (by rw [hpp]; simp) with h | h
        · exact h
        · have h2 := h.2
          rw [hFp] at h2; cases h2
      have no : ∀ e' ∈ L, e'.1 = i := fun e' he' => by
        rcases hall e' he' with h | h
        · rw [h, hie]
        · exfalso
          have hw := h.1
          rw [← hie] at hw
          have hj := (l.mem.1 (List.mem_map.2 ⟨e', he', rfl⟩)).1
          have hjl := waits_listed l.closed (waits_of hw) fun o' ho' => by rw [ho] at ho'; cases ho'; exact hall'
          obtain ⟨hj1, hj2⟩ := mem_unl.1 hj
          rw [getD_listed l.size hj1, hjl] at hj2
          cases hj2
      have hlt : (L.map (·.1)).Pairwise (· < ·) := by rw [l.map]; exact List.Pairwise.filter _ unl_lt
      rw [hpp, List.map_append, List.map_cons, List.pairwise_append, List.pairwise_cons] at hlt
      have hpre : pre = [] := by
        cases pre with
        | nil => rfl
        | cons c r =>
          exfalso
          have h1 := no c (by rw [hpp]; simp)
          have h2 := hlt.2.2 c.1 (by simp) i (by simp)
          omega
      have hpost : post = [] := by
        cases post with
        | nil => rfl
        | cons c r =>
          exfalso
          have h1 := no c (by rw [hpp]; simp)
          have h2 := hlt.2.1.1 c.1 (by simp)
          omega
      rw [hpre, hpost] at hft
      simp only [List.nil_append, foldE, Option.some.injEq, Prod.mk.injEq] at hft
      rw [← hft.1, appD_heap]
end
theorem any_wp (hT : TabOk P T) (hE : EnvOk P env) {hb h0 : List ABlk} {g0 : Gh} {w0 : World} {m : Nat} {s' : AS} {pan' : Pd} (ds : List Deferred)
    (hend : ∀ a w g, pan' = none → St K s'.heap g w → Le K h0 g0 w0 s'.heap g w → TRep s'.heap g w s'.tmps a.tmps → a.defers = ds → Q .normal a w)
    (hpan : ∀ q (st : AS) a w g x, pan'.map (·.2) = some q → s'.tmps.length = st.tmps.length → (((st.heap.length = hb.length + m ∧ ∀ i, i < hb.length → st.heap[i]? = hb[i]?) ∧ s'.heap.length = hb.length + m ∧ s'.heap.take hb.length = hb) ∨ s'.heap = st.heap) → St K st.heap g w → Le K h0 g0 w0 st.heap g w → TRep st.heap g w st.tmps a.tmps → a.defers = ds → Rep st.heap g w q x → Q (.panic [{ v := x, recovered := false }]) a w) :
    ∀ (fuel : Nat) (listed : Array Bool) (L : List En) (st : AS) (a : Act) (w : World) (g : Gh), Left T env ops hb m s' pan' listed L st → L.length ≤ fuel →
      St K st.heap g w → Le K h0 g0 w0 st.heap g w → TRep st.heap g w st.tmps a.tmps → a.defers = ds → wpAnyIn (FW ro) 0 P .any ops Q fuel listed a w := by
  have done : ∀ (listed : Array Bool) (L : List En) (st : AS) (a : Act) (w : World) (g : Gh), Left T env ops hb m s' pan' listed L st → Region.ready .any ops listed = [] → St K st.heap g w → Le K h0 g0 w0 st.heap g w → TRep st.heap g w st.tmps a.tmps → a.defers = ds → Q .normal a w := by
    intro listed L st a w g lf hr s l t hd
    obtain ⟨rfl, hp⟩ := lf.done hr
    exact hend a w g hp s l t hd
  intro fuel
  induction fuel with
  | zero =>
    intro listed L st a w g lf hu s l t hd
    have hr : Region.ready .any ops listed = [] := by
      cases hr : Region.ready .any ops listed with
      | nil => rfl
      | cons i _ =>
        obtain ⟨pre, F, post, o, e, _⟩ := lf.ready (i := i) (by rw [hr]; simp)
        rw [e] at hu; simp at hu
    exact ⟨hr, done listed L st a w g lf hr s l t hd⟩
  | succ fuel ih =>
    intro listed L st a w g lf hu s l t hd
    refine ⟨fun hr => done listed L st a w g lf hr s l t hd, fun i hi => ?_⟩
    obtain ⟨o, x, v, h1, p, ho, hout, hpd, hnext, hstop⟩ := lf.step hE hi
    -- one step
    have step : ∀ (g' : Gh) (w' : World) (y : Value), x = .normal → St K h1 g' w' → Le K st.heap g w h1 g' w' → Rep h1 g' w' v y →
        wpAnyIn (FW ro) 0 P .any ops Q fuel (listed.setIfInBounds i true) (a.put o.dst y) w' := by
      intro g' w' y hx s2 l2 hr
      subst hx
      simp only [panD, Option.some.injEq] at hpd
      obtain ⟨L', hl, lf'⟩ := hnext hpd.symm
      refine ih (listed.setIfInBounds i true) L' _ (a.put o.dst y) w' g' lf' (by omega) (by rw [appD_heap]; exact s2) (by rw [appD_heap]; exact l.trans l2) ?_ (by rw [put_defers]; exact hd)
      rw [appD_heap]
      have : TRep h1 g' w' ({ st with heap := h1 } : AS).tmps a.tmps := t.mono l2
      exact this.put o.dst hr
    have go : evT T env (rpOf ops.toList) (placeOf hb.length ops.toList i) o.op o.type st.ev st.heap = some (x, v, h1) → o.wpIn (FW ro) 0 P a w (wpAnyIn (FW ro) 0 P .any ops Q fuel (listed.setIfInBounds i true)) Q := by
      intro hx
      refine evD_wp (K := K) (g := g) (n := placeOf hb.length ops.toList i) (k := fun x v s => some (x, v, s.heap)) (r := (x, v, h1)) hT hE s t hx ⟨fun v2 st2 g2 w2 y hkv htm s2 l2 hr => ?_, fun v2 u2 st2 g2 w2 y hkv htm s2 l2 hr => ?_⟩
      · simp only [Option.some.injEq, Prod.mk.injEq] at hkv
        obtain ⟨e1, e2, e3⟩ := hkv
        subst e2; subst e3
        exact step g2 w2 y e1.symm s2 l2 hr
      · simp only [Option.some.injEq, Prod.mk.injEq] at hkv
        obtain ⟨e1, e2, e3⟩ := hkv
        subst e1; subst e3
        simp only [panD, Option.some.injEq] at hpd
        obtain ⟨q1, q2⟩ := hstop _ hpd.symm
        exact hpan _ { st with heap := st2.heap } a w2 g2 y q1 (foldE_frame _ _ _ lf.fold).1 q2 s2 (l.trans l2) (t.mono l2) hd hr
    have skip : x = .normal → v = .undef → h1 = st.heap → wpAnyIn (FW ro) 0 P .any ops Q fuel (listed.setIfInBounds i true) (a.put o.dst Go.undef) w := by
      intro e0 e1 e2
      subst e1; subst e2
      exact step g w Go.undef e0 s .refl .undef
    unfold wpOpIn
    simp only [ho]
    unfold outD at hout
    split at hout
    · rename_i hgd
      rw [if_pos (by simp [Region.wanted, hgd])]
      exact go hout
    · rename_i j want hgd
      split at hout
      · cases hout
      · rename_i d hdd
        have hy := yielded_some (a := a) hdd
        have htg := t.get d
        split at hout
        · rename_i b hb'
          have hb' : st.tmps.getD d .any = .bool b := hb'
          rw [hb'] at htg
          rw [rep_bool htg] at hy
          simp only at hy
          split at hout
          · rename_i hbw
            rw [if_pos (by simp [Region.wanted, hgd, hy, hbw])]
            exact go hout
          · rename_i hbw
            rw [if_neg (by simp [Region.wanted, hgd, hy, hbw])]
            cases hout
            exact ⟨fun _ _ => trivial, skip rfl rfl rfl⟩
        · rename_i hb'
          have hb' : st.tmps.getD d .any = .undef := hb'
          rw [hb'] at htg
          have hu' : a.tmps.getD d Go.undef = Go.undef := by generalize a.tmps.getD d Go.undef = q at htg; cases htg; rfl
          rw [hu'] at hy
          rw [if_neg (by simp [Region.wanted, hgd, hy, Go.undef])]
          cases hout
          exact ⟨fun _ _ => trivial, skip rfl rfl rfl⟩
        · cases hout
theorem foldE_low (hE : EnvOk P env) {base : Nat} : ∀ (L : List En) (d d' : DSt), foldE T env ops base L d = some d' → (∀ e ∈ L, highB base e.2.1 = true) → d'.1.heap.length = d.1.heap.length ∧ ∀ j, j < base → d'.1.heap[j]? = d.1.heap[j]?
  | [], d, d', h, _ => by simp only [foldE, Option.some.injEq] at h; rw [h]; exact ⟨rfl, fun _ _ => rfl⟩
  | e :: L, d, d', h, hh => by
    simp only [foldE] at h
    cases hs : stepE T env ops base e d with
    | none => rw [hs] at h; cases h
    | some t =>
      rw [hs] at h
      obtain ⟨o, x, v, h1, p, i1, i2, i3, i4, rfl⟩ := stepE_some hs
      obtain ⟨f1, f2⟩ := foldE_low hE L _ _ h fun e he => hh e (List.mem_cons_of_mem _ he)
      have hhi := hh e (List.mem_cons_self ..)
      obtain ⟨i0, F, pn⟩ := e
      cases F with
      | none => cases hhi
      | some q =>
        obtain ⟨F, W⟩ := q
        have lc := outD_local hE i2 i3
        rw [appD_heap] at f1 f2
        refine ⟨f1.trans lc.len, fun j hj => (f2 j hj).trans (lc.off j fun hm => ?_)⟩
        have := List.all_eq_true.1 hhi j hm
        simp at this; omega
theorem region_draw_wp (hm : P.follows .mixedOrders = true) (hT : TabOk P T) (hE : EnvOk P env) (id : Nat) (k : AExit → AS → Option α) (ds : List Deferred) (st : AS) (a : Act) (w : World) (g : Gh) (c : CCont K st.heap g w ds k r Q)
    (hk : evRegion real T env ops st k = some r) (s : St K st.heap g w) (t : TRep st.heap g w st.tmps a.tmps) (hd : a.defers = ds) : (Code.region id ops true).wpIn (FW ro) 0 P Q a w := by
  unfold evRegion at hk
  generalize hidSet env st.heap.length ops.toList (waitsL ops.toList []) st = hh at hk
  replace hE : EnvOk P (env.withHid hh) := ⟨hE.fs, hE.cv⟩
  revert hk hE
  generalize env.withHid hh = env
  intro hk hE
  obtain ⟨L, s', pan', h1, h2, h0, h3, h4, h5, h6⟩ := draw_spec hE _ _ _ _ 0 _ none [] _ rfl hk
  have hb : Below w.heap.size w { w with drawn := w.drawn + 1 } := ⟨rfl, rfl, rfl, Nat.le_refl _, fun _ _ => rfl⟩
  have s1 := s.below hb g.M (fun _ h => h) (fun _ h => .inl h) s.low
  have l1 := le_below s hb g.M (fun _ h => h) (fun _ h => .inl h)
  obtain ⟨g2, l2, s2⟩ := grow_free ((ops.toList.filter fun o => isAlloc (rpOf ops.toList) o.op).length) _ _ s1
  have hall : unl ops (Array.replicate ops.size false) = List.range ops.size := by
    unfold unl
    refine List.filter_eq_self.2 fun i hi => ?_
    have := List.mem_range.1 hi
    simp [Array.getD_eq_getD_getElem?, this]
  have hlow : (∀ e ∈ L, highB st.heap.length e.2.1 = true) → s'.heap.length = st.heap.length + (ops.toList.filter fun o => isAlloc (rpOf ops.toList) o.op).length ∧ s'.heap.take st.heap.length = st.heap := fun hh => by
    obtain ⟨f1, f2⟩ := foldE_low hE L _ _ h1 hh
    refine ⟨by rw [f1]; simp, List.ext_getElem? fun i => ?_⟩
    rw [List.getElem?_take]
    split
    · rename_i hi
      rw [f2 i hi]
      simp only
      rw [List.getElem?_append_left hi]
    · rename_i hi; rw [List.getElem?_eq_none (by omega)]
  have lf : Left T env ops st.heap ((ops.toList.filter fun o => isAlloc (rpOf ops.toList) o.op).length) s' pan' (Array.replicate ops.size false) L { st with heap := st.heap ++ List.replicate ((ops.toList.filter fun o => isAlloc (rpOf ops.toList) o.op).length) .free } := {
    size := by simp
    closed := fun i o ho hl => by
      simp [Array.getD_eq_getD_getElem?, Array.getElem?_replicate] at hl
      split at hl <;> simp at hl
    fold := h1
    pans := fun ps u e j hj => by
      rcases h0.2 ps u e j hj with h | ⟨_, _, e, _⟩
      · exact h
      · cases e
    map := by rw [h4, hall, List.range_eq_range']; simp
    edge := fun e he => let ⟨o, a, b, _⟩ := h5 e he; ⟨o, a, b⟩
    pair := h6
    high := by
      cases pan' with
      | none => exact .inl rfl
      | some q =>
        rcases (h3.1 q rfl).2 with ⟨_, h⟩ | ⟨p0, u0, rfl, _, h⟩
        · exact .inr (.inl ⟨h, ⟨by simp, fun i hi => by simp only; rw [List.getElem?_append_left hi]⟩, hlow h⟩)
        · refine .inr (.inr ?_)
          rcases h0.2 [p0] u0 rfl p0 (List.mem_cons_self ..) with ⟨e, he, hp, hf⟩ | ⟨_, _, e, _⟩
          · refine ⟨e, he, hf, fun e' he' => ?_⟩
            rw [hp]
            rcases h e' he' with h | h
            · exact .inl h
            · by_cases hpe : e'.1 = p0
              · exact .inl hpe
              · refine .inr ⟨h, ?_⟩
                cases hfl : e'.2.2 with
                | false => rfl
                | true =>
                  obtain ⟨ps, u, e1, e2⟩ := h3.2 e' he' hfl
                  cases e1
                  exact absurd (by simpa using e2) hpe
          · cases e }
  have hlen : L.length ≤ ops.size := by
    have : (L.map (·.1)).length ≤ ops.size := by
      rw [h4]
      refine Nat.le_trans (List.length_filter_le _ _) ?_
      simp
    simpa using this
  refine wpIn_region_any hm (any_wp hT hE (h0 := st.heap) (g0 := g) (w0 := w) ds (fun a' w' g' hp q1 q2 q3 q4 => ?_) (fun q st' a' w' g' x hp q0 q12 q3 q4 q5 q6 q7 => ?_) ops.size _ L _ a _ g2 lf hlen s2 (l1.trans l2) (t.mono (l1.trans l2)) hd)
  · subst hp
    have al := unfree_alike s'.heap
    exact c.on .normal { s' with heap := s'.heap.map unfreeB } g' a' w' .normal h2 (al.st q1) (unfree_le q2) (al.trep q3) q4 trivial
  · rw [hp] at h2
    have fin : Alike st'.heap (s'.heap.take st.heap.length ++ List.replicate (s'.heap.length - st.heap.length) .dead) ∧ Le K st.heap g w (s'.heap.take st.heap.length ++ List.replicate (s'.heap.length - st.heap.length) .dead) g' w' := by
      rcases q12 with ⟨⟨q1, q2⟩, q3', q4'⟩ | q
      · have e : s'.heap.length - st.heap.length = (ops.toList.filter fun o => isAlloc (rpOf ops.toList) o.op).length := by omega
        rw [q4', e]
        exact ⟨back_alike q1 q2, back_le q1 q2 q4⟩
      · rw [← q] at q4 ⊢
        have hl := q4.len
        refine ⟨back_alike (by rw [List.length_take]; omega) fun i hi => ?_, back_le2 (by omega) (Nat.le_refl _) q4⟩
        rw [List.length_take] at hi
        rw [List.getElem?_take, if_pos (by omega)]
    refine c.on (.pan q) _ g' a' w' _ h2 (fin.1.st q3) fin.2 ⟨?_, fun j c x hc _ => ?_⟩ q6 ⟨_, rfl, fin.1.rep q7⟩
    · simp only [List.length_map]
      have e1 := (foldE_frame L _ _ h1).1
      simp only at e1
      exact (e1.symm.trans q0).trans q5.1
    · simp only [List.getElem?_map] at hc
      cases hx : st.tmps[j]? with
      | none => rw [hx] at hc; cases hc
      | some b => rw [hx] at hc; cases hc; exact .any _
end
end Go.Proofs.Ytcbfmkfmdcabmaa

namespace Go.Proofs.Ytcbfmkfmdcabmaa
open Go.RowKit
theorem heldB_spec {s : AS} : ∀ (l : List (Nat × Nat)), heldB s l = true → ∀ p ∈ l, s.get p.1 = .own p.2
  | [], _, p, hp => by simp at hp
  | (t, i) :: r, h, p, hp => by
    simp only [heldB] at h
    split at h
    · rename_i j hj
      simp only [Bool.and_eq_true, beq_iff_eq] at h
      rcases List.mem_cons.1 hp with e | e
      · subst e; rw [hj, h.1]
      · exact heldB_spec r h.2 p e
    · cases h
theorem heldOf_mem {skip : List Nat} {i : Nat} : ∀ (ts : List AVal) (n m : Nat), ts[m]? = some (.own i) → n + m ∉ skip → (n + m, i) ∈ heldOf skip ts n
  | [], n, m, h, _ => by simp at h
  | v :: r, n, m, h, hs => by
    cases m with
    | zero =>
      simp only [List.getElem?_cons_zero, Option.some.injEq] at h
      subst h
      have : n ∉ skip := by simpa using hs
      simp [heldOf, this]
    | succ m =>
      have ih := heldOf_mem r (n + 1) m (by simpa using h) (by rwa [Nat.add_assoc, Nat.add_comm 1 m])
      rw [Nat.add_assoc, Nat.add_comm 1 m] at ih
      cases v <;> simp only [heldOf] <;> first
        | exact ih
        | (cases skip.contains n
           · exact List.mem_cons_of_mem _ ih
           · exact ih)
theorem ex_held {L : LoopAt} {s : AS} {y : L.ty} (hx : L.ex s = some y) : heldB s L.held = true := by
  unfold LoopAt.ex at hx
  split at hx
  · rename_i hc; exact hc.1.1
  · cases hx
section
variable {imp : Bool} {only : Option (List Nat)} {K : Nat → Prop} {L : LoopAt} {s s' : AS} {g g' : Gh} {w w' : World} {a a' : Act} {c : Code}
theorem owns_row {h : List ABlk} {ks : List Kd} {vs : List AVal} {y : Kds.ty ks} (h4 : exKs h ks vs = some y) : ∀ j, j ∈ ownsIn ks vs → ∃ t e, ∃ xs : List e.ty, h[j]? = some (.row true t e xs) := fun j hj => by
  rw [ownsIn_eq, List.mem_filterMap] at hj
  obtain ⟨o, ho, e⟩ := hj
  simp only [id] at e
  subst e
  obtain ⟨q, hq⟩ := List.mem_iff_getElem?.1 ho
  obtain ⟨t, e, xs, _, a2⟩ := (rows_at _ _ _ _ h4).2 q _ hq
  rcases a2 with ⟨i, b1, b2⟩ | ⟨b1, _⟩
  · cases b1; exact ⟨t, e, xs, b2⟩
  · cases b1
theorem at_entry {x0 : L.ty} (hL : loopAt imp only s c = some L) (hx : L.ex s = some x0) (hs : St K s.heap g w) (ht : TRep s.heap g w s.tmps a.tmps) : AtEnd K L s s g w a := by
  obtain ⟨_, _, _, ho, hz, _⟩ := loopAt_spec hL
  obtain ⟨_, _, h3, h4⟩ := ex_parts hx
  refine ⟨hs, ht, rfl, fun _ _ _ => rfl, Nat.le_refl _, fun i b hb hd h1 h2 _ => .inr ⟨hb, by rw [← ho]; exact h1, by rw [hz]; simp⟩, fun i b hb hl hd => ⟨fun hm => ?_, fun n hm => ?_, fun p hp e => ?_⟩, fun t c hc => ?_, fun i wr cs hb j c hc => ?_, fun i st pend ts ps aw bo hb j c hc => ?_⟩
  · rw [ho] at hm
    obtain ⟨t, e, xs, hr⟩ := owns_row h4 i hm
    rw [hb] at hr; cases hr; exact lockB_row hl
  · have := boxAt_get (h3 _ hm).1
    rw [hb] at this; cases this; cases hl
  · obtain ⟨t, e', xs, hr⟩ := ex_rws hx p hp
    rw [e, hb] at hr; cases hr; exact lockB_row hl
  · have hlt : t < a.tmps.size := by have := (List.getElem?_eq_some_iff.1 hc).1; rw [← ht.1]; exact this
    exact (ht.2 t c _ hc (Array.getElem?_eq_getElem hlt)).bd
  · obtain ⟨b, arr, t, _, _, h5, h6⟩ := hs.blk i _ hb
    have hlt : j < arr.size := by have := (List.getElem?_eq_some_iff.1 hc).1; omega
    exact (h6 j c _ hc (Array.getElem?_eq_getElem hlt)).2.bd
  · obtain ⟨l, arr, fn, D, _, _, h5, h6⟩ := hs.blk i _ hb
    have hlt : j < arr.size := by have := (List.getElem?_eq_some_iff.1 hc).1; omega
    exact (h6 j c _ hc (Array.getElem?_eq_getElem hlt)).bd
theorem at_round {K1 K2 : Nat → Prop} {x0 x y : L.ty} {e : AExit} {g1 : Gh} {w1 : World} (hL : loopAt imp only s c = some L) (hx : L.ex s = some x0) (A0 : AtEnd K L s s g w a)
    (hl : Le K1 (L.state s true x).heap g1 w1 s'.heap g' w') (hf : Fr (dstsOf c) (L.state s true x) e s') (he : e = .normal ∨ ∃ id, e = .exit id) (hy : L.ex s' = some y)
    (hs : St K2 s'.heap g' w') (ht : TRep s'.heap g' w' s'.tmps a'.tmps) : AtEnd K2 L s s' g' w' a' := by
  obtain ⟨hd, _, hh, _, _, hlps⟩ := loopAt_spec hL
  refine ⟨hs, ht, hf.len.trans state_tlen, fun t h1 h2 => ?_, Nat.le_trans (by rw [state_len]; omega) hl.len, fun i b hb hb' h1 h2 h3 => .inl ?_, A0.lock0, A0.bds, A0.bdh, A0.bdl⟩
  · by_cases ho : ∃ i, s.tmps[t]? = some (.own i)
    · obtain ⟨i, hi⟩ := ho
      have hm : (t, i) ∈ L.held := by
        rw [hh]
        have := heldOf_mem (skip := L.dsts ++ L.slots) s.tmps 0 t hi (by simp [h1, h2])
        rwa [Nat.zero_add] at this
      rw [hi]
      exact get_eq (heldB_spec _ (ex_held hy) _ hm) (by simp)
    · rw [hf.on he t (by rw [hd, mem_dedup] at h1; exact h1) fun i hi => ho ⟨i, by rwa [state_other h1 h2] at hi⟩, state_other h1 h2]
  · have hk := state_kept L s true x i b hb h1 h2 h3
    simp only [cond_true] at hk
    cases b with
    | dead => exact absurd rfl hb'
    | box wr cs => exact hl.lockb i cs hk
    | row wr t e xs => exact hl.lockr i t e xs hk
    | free => exact absurd hb (lpsOf_free _ _ _ hlps i)
    | lp st pend ts ps aw bo =>
      obtain ⟨e1, hm⟩ := lpsOf_spec _ _ _ hlps i st pend ts ps aw bo hb
      subst e1
      rw [Nat.zero_add] at hm
      obtain ⟨_, _, _, _, _, hlp, _⟩ := ex_all hy
      obtain ⟨ts', ps', as', bo', hq⟩ := lpsB_get hlp hm
      obtain ⟨_, _, h4, _⟩ := hl.lp i _ _ _ _ _ _ (.of hk (by simp [lockB])) hq
      rw [hk] at h4
      cases h4
      exact hq
end
def MRep (K0 K : Nat → Prop) (g : Gh) (w : World) (ds : List Deferred) : Prop :=
  ∃ rs : List Nat, rs.Nodup ∧ ds = rs.map (fun r => ({ target := .collected r, args := #[] } : Deferred)) ∧ ∀ r ∈ rs, K r ∧ ¬ K0 r ∧ ¬ g.M r ∧ w.heap[r]? = some (.deferred (some []))
theorem MRep.nil {K0 K g w} : MRep K0 K g w [] := ⟨[], List.nodup_nil, rfl, fun r hr => by simp at hr⟩
theorem MRep.mono {K0 K h g w h' g' w'} {ds : List Deferred} (m : MRep K0 K g w ds) (l : Le K h g w h' g' w') : MRep K0 K g' w' ds := by
  obtain ⟨rs, h1, h2, h3⟩ := m
  refine ⟨rs, h1, h2, fun r hr => ?_⟩
  obtain ⟨a, b, c, d⟩ := h3 r hr
  exact ⟨a, b, fun hm => (l.new r hm).elim c fun hn => hn a, (l.k r a).trans d⟩
theorem MRep.more {K0 K K' g w} {ds : List Deferred} (m : MRep K0 K g w ds) (hk : ∀ b, K b → K' b) : MRep K0 K' g w ds := by
  obtain ⟨rs, h1, h2, h3⟩ := m
  exact ⟨rs, h1, h2, fun r hr => let ⟨a, b, c, d⟩ := h3 r hr; ⟨hk r a, b, c, d⟩⟩
theorem AtEnd.mr {K0 K : Nat → Prop} {L : LoopAt} {s s' : AS} {g' : Gh} {w' : World} {a' : Act} {z : L.ty} {ds : List Deferred} (A : AtEnd K L s s' g' w' a') (hx : L.ex s' = some z) (m : MRep K0 K g' w' ds) : MRep K0 K (L.gh s s' g') w' ds := by
  obtain ⟨rs, h1, h2, h3⟩ := m
  exact ⟨rs, h1, h2, fun r hr => let ⟨a, b, c, d⟩ := h3 r hr; ⟨a, b, fun hm => (A.new hx r hm).elim c fun h => h a, d⟩⟩
structure Done (K0 K : Nat → Prop) (h0 : List ABlk) (g0 : Gh) (w0 : World) (x1 : AExit) (s1 : AS) (Q : Exit → Act → World → Prop) : Prop where
  on : ∀ K' g' (a' : Act) w' e, (∀ b, K b → K' b) → St K' s1.heap g' w' → Le K h0 g0 w0 s1.heap g' w' → TRep s1.heap g' w' s1.tmps a'.tmps → MRep K0 K' g' w' a'.defers → XR s1.heap g' w' x1 e → Q e a' w'
theorem xr_normal {h g w e} (r : XR h g w .normal e) : e = .normal := by cases e <;> first | rfl | cases r
theorem xr_ret {h g w e} (r : XR h g w .ret e) : e = .ret := by cases e <;> first | rfl | cases r
theorem xr_exit {h g w i e} (r : XR h g w (.exit i) e) : e = .exit i := by
  cases e <;> first | cases r
  rfl
theorem xr_pan {h g w v e} (r : XR h g w (.pan v) e) : ∃ c, e = .panic c := by
  cases e <;> first | exact ⟨_, rfl⟩ | cases r
theorem xr_alike {h h2 g w x e} (a : Alike h h2) (r : XR h g w x e) : XR h2 g w x e := by
  cases x with
  | pan v =>
    cases e with
    | panic c =>
      obtain ⟨u, h1, h3⟩ := r
      exact ⟨u, h1, a.rep h3⟩
    | _ => exact r
  | _ => cases e <;> exact r
theorem wpIn_scope' {F : Fence} {n : Nat} {P : Program} {Q : Exit → Act → World → Prop} {a : Act} {w : World} {c : Code} (h : c.wpIn F n P (Exit.noGoto Q) a w) : (Code.scope c).wpIn F n P Q a w := by
  intro b k cs hro hb hr
  have h0 : (lone (b.atR a (.code (.scope c) :: k)) cs w).fenced P F := fenced_calm hb hr rfl
  have s0 : step P (lone (b.atR a (.code (.scope c) :: k)) cs w) = .next (lone (b.atR a (.code c :: .inScope c :: k)) cs w) := step_lone_go (by simp [Go.stepG, Go.stepG.exec, Frame.atR])
  have s1 : ∀ a w, step P (lone (b.atR a (.inScope c :: k)) cs w) = .next (lone (b.atR a k) cs w) := fun a w => step_lone_go (by simp [Go.stepG, Go.stepG.exec, Frame.atR])
  obtain ⟨e, a₁, w₁, hq, harr⟩ := h b (.inScope c :: k) cs hro hb hr
  cases e with
  | normal => exact ⟨.normal, a₁, w₁, hq, .head h0 s0 (StepsIn.trans harr (.one (fenced_calm hb hr rfl) (s1 _ _)))⟩
  | exit id =>
    have hx : exitTo id (.inScope c :: k) = exitTo id k := by simp [exitTo]
    exact ⟨.exit id, a₁, w₁, hq, fun k' hk => .head h0 s0 (harr.1 k' (by rw [hx]; exact hk)), fun hr' hk => let ⟨k₁, h1, h2⟩ := harr.2 hr' (by rw [hx]; exact hk); ⟨k₁, h1, .head h0 s0 h2⟩⟩
  | goto l => exact hq.elim
  | ret => exact ⟨_, a₁, w₁, hq, .of_steps (.one h0 s0) harr⟩
  | panic ch => exact ⟨_, a₁, w₁, hq, .of_steps (.one h0 s0) harr⟩
  | outgrown => exact ⟨_, a₁, w₁, hq, .of_steps (.one h0 s0) harr⟩
section
variable {ro : Option Nat} {P : Program} {T : Tab} {env : Env} {K0 : Nat → Prop}
theorem range_wp (hE : EnvOk P env) {K : Nat → Prop} {f : Operand} {ps : Array Tmp} {asg bo : Code} {s : AS} {x1 : AExit} {s1 : AS} {a : Act} {w : World} {g : Gh} {Q : Exit → Act → World → Prop} (hK0 : ∀ b, K0 b → K b)
    (h : (match s.ev f with
      | .fn fid caps =>
        env.cv (AExit × AS) (.fn fid caps) [.yld s.heap.length] (s.heap ++ [.lp .ready none s.tmps ps.toList asg bo]) fun x _ h =>
          match x with
          | .normal =>
            match h.getD s.heap.length .dead with
            | .lp .busy _ _ _ _ _ => none
            | .lp _ none _ _ _ _ => pairE .normal { s with heap := h.set s.heap.length .dead }
            | .lp _ (some .ret) _ _ _ _ => pairE .ret { s with heap := h.set s.heap.length .dead }
            | .lp _ (some (.exit id)) _ _ _ _ => pairE (.exit id) { s with heap := h.set s.heap.length .dead }
            | _ => none
          | .pan v => pairE (.pan v) { s with heap := h.set s.heap.length .dead }
          | _ => none
      | _ => none) = some (x1, s1))
    (hs : St K s.heap g w) (ht : TRep s.heap g w s.tmps a.tmps) (hd : MRep K0 K g w a.defers) (D : Done K0 K s.heap g w x1 s1 Q) : (Code.rangeFunc f ps asg bo).wpIn (FW none) 0 P Q a w := by
  split at h
  case h_2 => cases h
  rename_i fid caps hf
  rw [hE.cv.nat] at h
  cases hq : env.cv _ (.fn fid caps) [.yld s.heap.length] (s.heap ++ [.lp .ready none s.tmps ps.toList asg bo]) tripE with
  | none => rw [hq] at h; cases h
  | some p =>
    obtain ⟨x, u, h2⟩ := p
    rw [hq] at h
    simp only [Option.bind_some] at h
    have hfr := ht.ev f
    rw [hf] at hfr
    refine wpIn_rangeFunc fun fn _ => ?_
    have hen := run_enterLoop_outer (P := P) (w := w) fn a.tmps ps asg bo
    -- the two blocks
    have hbA : Below w.heap.size w (w.alloc (.deferred (some []))) := (Below.refl _ _).alloc (Nat.le_refl _) _
    have hdA : (w.alloc (.deferred (some []))).heap[w.heap.size]? = some (.deferred (some [])) := World.alloc_heap_new w _
    have hszA : (w.alloc (.deferred (some []))).heap.size = w.heap.size + 1 := by simp
    have hbB : Below (w.alloc (.deferred (some []))).heap.size (w.alloc (.deferred (some []))) ((w.alloc (.deferred (some []))).alloc (.loop { state := .ready, pending := none, fn, tmps := a.tmps, params := ps, assign := asg, body := bo, defers := w.heap.size })) := (Below.refl _ _).alloc (Nat.le_refl _) _
    have hlB : ((w.alloc (.deferred (some []))).alloc (.loop { state := .ready, pending := none, fn, tmps := a.tmps, params := ps, assign := asg, body := bo, defers := w.heap.size })).heap[w.heap.size + 1]? = some (.loop { state := .ready, pending := none, fn, tmps := a.tmps, params := ps, assign := asg, body := bo, defers := w.heap.size }) := by
      have := World.alloc_heap_new (w.alloc (.deferred (some []))) (.loop { state := .ready, pending := none, fn, tmps := a.tmps, params := ps, assign := asg, body := bo, defers := w.heap.size })
      rwa [hszA] at this
    generalize hwA : w.alloc (.deferred (some [])) = wA at *
    generalize hwB : wA.alloc (.loop { state := .ready, pending := none, fn, tmps := a.tmps, params := ps, assign := asg, body := bo, defers := w.heap.size }) = wB at *
    have hszB : wB.heap.size = w.heap.size + 2 := by rw [← hwB]; simp [hszA]
    -- the state with the mark
    have lA := le_below hs hbA g.M (fun _ h => h) (fun _ h => .inl h)
    have sA0 := hs.below hbA g.M (fun _ h => h) (fun _ h => .inl h) (fun b h => Nat.lt_of_lt_of_le (hs.low b h) hbA.size)
    have sA : St (fun b => K b ∨ b = w.heap.size) s.heap g wA := ⟨sA0.blk, sA0.inj, fun i b ha hb => by
      obtain ⟨h1, h2, h3⟩ := hs.sep i b ha hb
      exact ⟨fun h => h.elim h1 fun e => Nat.lt_irrefl _ (e ▸ h3), h2, Nat.lt_of_lt_of_le h3 hbA.size⟩, sA0.low, fun b hb => hb.elim (sA0.klow b) fun e => by rw [e, hszA]; omega⟩
    have mA : MRep K0 (fun b => K b ∨ b = w.heap.size) g wA ({ target := .collected w.heap.size, args := #[] } :: a.defers) := by
      obtain ⟨rs, r1, r2, r3⟩ := hd.mono lA
      refine ⟨w.heap.size :: rs, List.nodup_cons.2 ⟨fun hm => Nat.lt_irrefl _ (hs.klow _ (r3 _ hm).1), r1⟩, by rw [r2]; rfl, fun r hr => ?_⟩
      rcases List.mem_cons.1 hr with e | e
      · subst e
        exact ⟨.inr rfl, fun hk => Nat.lt_irrefl _ (hs.klow _ (hK0 _ hk)), fun hm => Nat.lt_irrefl _ (hs.low _ hm), hdA⟩
      · obtain ⟨q1, q2, q3, q4⟩ := r3 r e
        exact ⟨.inl q1, q2, q3, q4⟩
    have lB : Le (fun b => K b ∨ b = w.heap.size) s.heap g wA (s.heap ++ [.lp .ready none s.tmps ps.toList asg bo]) (g.at s.heap.length (.func (.yield (w.heap.size + 1)) #[] #[])) wB := le_grow sA _ _ hbB
    have sB := sA.grow (.lp .ready none s.tmps ps.toList asg bo) (.func (.yield (w.heap.size + 1)) #[] #[]) lB (fun i n ai hn => hbB.block n (sA.sep i n ai hn).2.2)
      ⟨w.heap.size + 1, a.tmps, fn, w.heap.size, g.at_same _ _, by simpa using hlB, ht.1.symm, fun j c z hc hz => ((ht.2 j c z hc hz).mono lA).mono lB⟩
      (fun n hn => by
        simp only [blockOf, Option.some.injEq] at hn
        subst hn
        refine ⟨⟨fun h => h.elim (fun hk => ?_) fun e => by omega, fun hm => ?_, by omega⟩, fun i ai hi => ?_⟩
        · have := hs.klow _ hk; omega
        · have := hs.low _ hm; omega
        · have := (hs.sep i _ ai hi).2.2; omega)
    have hcv := hE.cv.ok (.fn fid caps) [.yld s.heap.length] _ x u h2 hq _ _ wB (a.eval f) #[.func (.yield (w.heap.size + 1)) #[] #[]] sB ((hfr.mono lA).mono lB) rfl (fun j c z hc hz => by
      cases j with
      | zero =>
        simp only [List.getElem?_cons_zero, Option.some.injEq] at hc
        simp only [List.getElem?_toArray, List.getElem?_cons_zero, Option.some.injEq] at hz
        subst hc; subst hz
        exact .yld _ _ (.of (List.getElem?_concat_length ..) (by simp)) rfl fun _ _ _ _ _ _ _ => (g.at_same _ _).symm
      | succ j => simp at hc)
    rcases hcv with ⟨fid', carr, hfv, hen', hcalls⟩ | ⟨l, _, _, _, _, hfv, _⟩ | ⟨_, _, _, _, ⟨z, hz, hzn⟩, _⟩
    case inr.inl => rw [hfv] at hfr; cases hfr
    case inr.inr => simp at hz; exact absurd hz.symm (hzn _ _ _)
    refine ⟨w.heap.size + 1, [{ target := .collected w.heap.size, args := #[] }], wB, { target := .fn (.func fid') carr, args := #[.func (.yield (w.heap.size + 1)) #[] #[]] }, wB, fid', #[.func (.yield (w.heap.size + 1)) #[] #[]] ++ carr, wB, hen, ?_, fun _ _ => trivial, ?_, fun h => by simp [FW] at h, ?_⟩
    · have harg : a.eval (.const (.func (.yield (w.heap.size + 1)) #[] #[])) = .func (.yield (w.heap.size + 1)) #[] #[] := rfl
      simp [resolve, hfv, Deferred.ofValue, rangeCall, harg]
    · simp [invoke, hen']
    · refine (callsIn_of hcalls).mono fun e w' hp => ?_
      obtain ⟨g', s2, l2, hx⟩ := hp
      have lAll : Le K s.heap g w h2 g' w' := (lA.trans (lB.less fun b h => .inl h)).trans (l2.less fun b h => .inl h)
      have hn : s.heap.length < h2.length := by have := l2.len; simp at this; omega
      have m2 : MRep K0 (fun b => K b ∨ b = w.heap.size) g' w' ({ target := .collected w.heap.size, args := #[] } :: a.defers) := (mA.mono lB).mono l2
      have t2 : TRep h2 g' w' s.tmps a.tmps := ht.mono lAll
      -- the record behind the call
      have recd : ∀ st pend ts ps' as' bo', h2[s.heap.length]? = some (.lp st pend ts ps' as' bo') → g'.ρ s.heap.length = .func (.yield (w.heap.size + 1)) #[] #[] := fun st pend ts ps' as' bo' hh => by
        obtain ⟨_, _, _, h4⟩ := l2.lp s.heap.length st pend ts ps' as' bo' (.of (List.getElem?_concat_length ..) (by simp)) hh
        rw [h4, g.at_same]
      -- behind the statement
      have fin : ∀ (w3 : World) (x1' : AExit) (e' : Exit), pairE x1' { s with heap := h2.set s.heap.length .dead } = some (x1, s1) → Le (fun b => K b ∨ b = w.heap.size) h2 g' w' (h2.set s.heap.length .dead) g' w3 → St (fun b => K b ∨ b = w.heap.size) (h2.set s.heap.length .dead) g' w3 → XR (h2.set s.heap.length .dead) g' w3 x1' e' →
          Q e' { a with defers := [{ target := .collected w.heap.size, args := #[] }] ++ a.defers } w3 := fun w3 x1' e' hpe l3 s3 hxr => by
        simp only [pairE, Option.some.injEq, Prod.mk.injEq] at hpe
        obtain ⟨e1, e2⟩ := hpe
        subst e1; subst e2
        exact D.on _ g' _ w3 e' (fun b h => .inl h) s3 (lAll.trans (l3.less fun b h => .inl h)) (t2.mono l3) (m2.mono l3) hxr
      cases x with
      | exit id => exact hx.elim
      | ret => exact hx.elim
      | pan v =>
        obtain ⟨z, rfl, hz⟩ := hx
        show Q (.panic [{ v := z, recovered := false }]) _ w'
        by_cases hlp : ∃ st pend ts ps' as' bo', h2[s.heap.length]? = some (.lp st pend ts ps' as' bo')
        · obtain ⟨st, pend, ts, ps', as', bo', hh⟩ := hlp
          obtain ⟨l3, s3⟩ := lp_drop s2 hh (l := w.heap.size + 1) (by rw [recd _ _ _ _ _ _ hh]; rfl) w' (fun _ _ => rfl) rfl rfl rfl rfl
          exact fin w' (.pan v) _ h l3 s3 ⟨z, rfl, hz.mono l3⟩
        · have hal : Alike h2 (h2.set s.heap.length .dead) := ⟨by simp, fun i b2 hb => by
            rcases set_get hb with ⟨_, e, _⟩ | ⟨_, e⟩
            · exact .inl e
            · exact .inr ⟨b2, e, rfl⟩⟩
          have hnb : ∀ b, h2[s.heap.length]? = some b → b = .dead := fun b hb => by
            have hb' : Here (s.heap ++ [ABlk.lp .ready none s.tmps ps.toList asg bo]) s.heap.length := .of (List.getElem?_concat_length ..) (by simp)
            cases b with
            | dead => rfl
            | free =>
              obtain ⟨b2, h2b, hn2⟩ := l2.here _ hb'
              rw [hb] at h2b; cases h2b; exact absurd rfl hn2
            | box wr cs => obtain ⟨_, _, h4, _⟩ := l2.box _ wr cs hb' hb; simp at h4
            | row wr t e xs => obtain ⟨_, _, h4, _⟩ := l2.row _ wr t e xs hb' hb; simp at h4
            | lp st pend ts ps' as' bo' => exact absurd ⟨_, _, _, _, _, _, hb⟩ hlp
          have hsame : h2.set s.heap.length .dead = h2 := by
            apply List.ext_getElem?
            intro i
            rw [List.getElem?_set]
            split
            · rename_i e
              subst e
              have e1 := List.getElem?_eq_getElem hn
              first
                | rw [if_pos hn, e1, hnb _ e1]
                | rw [e1, hnb _ e1]
            · rfl
          rw [hsame] at fin h
          exact fin w' (.pan v) _ h .refl s2 ⟨z, rfl, hz⟩
      | normal =>
        obtain ⟨z, rfl, hz⟩ := hx
        simp only at h
        have gone : ∀ st pend ts ps' as' bo', h2.getD s.heap.length .dead = .lp st pend ts ps' as' bo' → st ≠ .busy → ∃ w3, (Instr.endLoop (w.heap.size + 1)).run P w' = .ok pend w3 ∧ Le (fun b => K b ∨ b = w.heap.size) h2 g' w' (h2.set s.heap.length .dead) g' w3 ∧ St (fun b => K b ∨ b = w.heap.size) (h2.set s.heap.length .dead) g' w3 := fun st pend ts ps' as' bo' hh hne => by
          have hh := getD_some (by simp) hh
          have hρ := recd _ _ _ _ _ _ hh
          obtain ⟨l, arr, fn', D', d1, d2, _⟩ := s2.blk _ _ hh
          rw [hρ] at d1
          cases d1
          refine ⟨_, run_endLoop d2 hne, ?_⟩
          exact lp_drop s2 hh (l := w.heap.size + 1) (by rw [hρ]; rfl) _ (fun n hn => World.putObj_heap_other hn) rfl rfl rfl World.putObj_size
        split at h
        · cases h
        · rename_i st ts ps' as' bo' hne hh
          obtain ⟨w3, e1, l3, s3⟩ := gone _ _ _ _ _ _ hh fun e => hne e
          exact ⟨none, w3, e1, fin w3 .normal .normal h l3 s3 trivial⟩
        · rename_i st ts ps' as' bo' hne hh
          obtain ⟨w3, e1, l3, s3⟩ := gone _ _ _ _ _ _ hh fun e => hne e
          exact ⟨some .ret, w3, e1, wpIn_ret (fin w3 .ret .ret h l3 s3 trivial)⟩
        · rename_i st id ts ps' as' bo' hne hh
          obtain ⟨w3, e1, l3, s3⟩ := gone _ _ _ _ _ _ hh fun e => hne e
          exact ⟨some (.exit id), w3, e1, wpIn_exit (fin w3 (.exit id) (.exit id) h l3 s3 rfl)⟩
        · cases h
theorem stayI_ok {K g w} {tmps : Array Value} (i : Nat) {s : AS} (hs : St K s.heap g w) (ht : TRep s.heap g w s.tmps tmps) : ∃ g', St K (stayI i s).heap g' w ∧ Le K s.heap g w (stayI i s).heap g' w ∧ TRep (stayI i s).heap g' w (stayI i s).tmps tmps := by
  unfold stayI
  · split
    · rename_i wt e xs hr
      split
      case isFalse => exact ⟨g, hs, .refl, ht⟩
      rename_i h0
      split
      · rename_i h' hk
        obtain ⟨l, s1⟩ := kill_z hs hk
        refine ⟨_, s1, l, by simpa using ht.1, fun j c x hc hx => ?_⟩
        have hc : (s.tmps.map (roOf i e xs))[j]? = some c := hc
        rw [List.getElem?_map] at hc
        cases hj : s.tmps[j]? with
        | none => rw [hj] at hc; cases hc
        | some c0 =>
          rw [hj] at hc
          simp only [Option.map_some, Option.some.injEq] at hc
          subst hc
          have r0 := ht.2 j c0 x hj hx
          cases c0 with
          | own i' =>
            simp only [roOf]
            split
            · rename_i he
              subst he
              have hri := getD_some (by simp) hr
              cases r0 with
              | own _ _ _ _ hv =>
                have hx' := hv _ _ e xs hri
                subst hx'
                exact row_ro (hs.blk i' _ hri) h0 (fun b h => .inl h) fun b hb => .inr ⟨i', by simp, hb⟩
            · exact r0.mono l
          | _ => exact r0.mono l
      · exact ⟨g, hs, .refl, ht⟩
    · exact ⟨g, hs, .refl, ht⟩
theorem stayT_ok {K g w} {tmps : Array Value} (d : Nat) {s : AS} (hs : St K s.heap g w) (ht : TRep s.heap g w s.tmps tmps) : ∃ g', St K (stayT d s).heap g' w ∧ Le K s.heap g w (stayT d s).heap g' w ∧ TRep (stayT d s).heap g' w (stayT d s).tmps tmps := by
  unfold stayT
  split
  · exact stayI_ok _ hs ht
  · exact ⟨g, hs, .refl, ht⟩
theorem stayL_ok {K w} {tmps : Array Value} : ∀ (l : List Nat) {g} {s : AS}, St K s.heap g w → TRep s.heap g w s.tmps tmps → ∃ g', St K (stayL l s).heap g' w ∧ Le K s.heap g w (stayL l s).heap g' w ∧ TRep (stayL l s).heap g' w (stayL l s).tmps tmps
  | [], g, s, hs, ht => ⟨g, hs, .refl, ht⟩
  | o :: l, g, s, hs, ht => by
    obtain ⟨g1, a1, a2, a3⟩ := stayI_ok o hs ht
    obtain ⟨g2, b1, b2, b3⟩ := stayL_ok l a1 a3
    exact ⟨g2, b1, a2.trans b2, b3⟩
theorem stayR_ok {K w} {tmps : Array Value} : ∀ (l : List Oper) {g} {s : AS}, St K s.heap g w → TRep s.heap g w s.tmps tmps → ∃ g', St K (stayR l s).heap g' w ∧ Le K s.heap g w (stayR l s).heap g' w ∧ TRep (stayR l s).heap g' w (stayR l s).tmps tmps
  | [], g, s, hs, ht => ⟨g, hs, .refl, ht⟩
  | o :: l, g, s, hs, ht => by
    have h0 : ∃ g', St K (stayO s o).heap g' w ∧ Le K s.heap g w (stayO s o).heap g' w ∧ TRep (stayO s o).heap g' w (stayO s o).tmps tmps := by
      unfold stayO
      split
      · cases isAppO o.op
        · exact ⟨g, hs, .refl, ht⟩
        · exact stayT_ok _ hs ht
      · exact ⟨g, hs, .refl, ht⟩
    obtain ⟨g1, a1, a2, a3⟩ := h0
    obtain ⟨g2, b1, b2, b3⟩ := stayR_ok l a1 a3
    exact ⟨g2, b1, a2.trans b2, b3⟩
theorem stayF_ok {K w} {tmps : Array Value} (l : List Oper) {g} {s : AS} (hs : St K s.heap g w) (ht : TRep s.heap g w s.tmps tmps) : ∃ g', St K (stayF env l s).heap g' w ∧ Le K s.heap g w (stayF env l s).heap g' w ∧ TRep (stayF env l s).heap g' w (stayF env l s).tmps tmps := by
  unfold stayF
  cases env.apz
  · cases env.frt
    · simp only [cond_false]
      cases env.sts
      · exact ⟨g, hs, .refl, ht⟩
      · simp only [cond_true]
        unfold stayS
        cases l.any isStoO
        · exact ⟨g, hs, .refl, ht⟩
        · exact stayL_ok _ hs ht
    · simp only [cond_true, cond_false]
      unfold stayQ
      cases l.any isTryO
      · exact ⟨g, hs, .refl, ht⟩
      · exact stayL_ok _ hs ht
  · exact stayR_ok l hs ht
theorem ev_wp (hm : P.follows .mixedOrders = true) (hT : TabOk P T) (hE : EnvOk P env) (N : Nat) : ∀ (c : Code) (s : AS) (x1 : AExit) (s1 : AS) (a : Act) (w : World) (g : Gh) (K : Nat → Prop) (Q : Exit → Act → World → Prop), (∀ b, K0 b → K b) → (ro.isSome = true → hasRange c = false) →
    ev real T env N c s pairE = some (x1, s1) → St K s.heap g w → TRep s.heap g w s.tmps a.tmps → MRep K0 K g w a.defers → Done K0 K s.heap g w x1 s1 Q → c.wpIn (FW ro) 0 P Q a w
  | .skip, s, x1, s1, a, w, g, K, Q, hK, hro, h, hs, ht, hd, D => by cases h; exact wpIn_skip (D.on K g a w _ (fun _ h => h) hs .refl ht hd trivial)
  | .label _, s, x1, s1, a, w, g, K, Q, hK, hro, h, hs, ht, hd, D => by cases h; exact wpIn_label (D.on K g a w _ (fun _ h => h) hs .refl ht hd trivial)
  | .region id ops dr, s, x1, s1, a, w, g, K, Q, hK, hro, h, hs, ht, hd, D => by
    simp only [ev] at h
    have CC : ∀ (st' : AS) g' (a' : Act) w' e, stayK env ops pairE .normal st' = some (x1, s1) → St K st'.heap g' w' → Le K s.heap g w st'.heap g' w' → TRep st'.heap g' w' st'.tmps a'.tmps → a'.defers = a.defers → XR st'.heap g' w' .normal e → Q e a' w' := fun st' g' a' w' e hk h1 h2 h3 h4 h5 => by
      have hd' : MRep K0 K g' w' a'.defers := by rw [h4]; exact hd.mono h2
      simp only [stayK] at hk
      · cases hk
        obtain ⟨g2, q1, q2, q3⟩ := stayF_ok (env := env) ops.toList h1 h3
        exact D.on K g2 a' w' e (fun _ h => h) q1 (h2.trans q2) q3 (by rw [h4]; exact hd.mono (h2.trans q2)) (by cases e <;> exact h5)
    have C : CCont K s.heap g w a.defers (fun x s' => match x with
        | .normal => stayK env ops pairE .normal s'
        | .pan v => pairE (.pan v) s'
        | _ => none) (x1, s1) Q := ⟨fun x st' g' a' w' e hk h1 h2 h3 h4 h5 => by
      have hd' : MRep K0 K g' w' a'.defers := by rw [h4]; exact hd.mono h2
      cases x with
      | normal => exact CC st' g' a' w' e hk h1 h2 h3 h4 h5
      | pan v => cases hk; exact D.on K g' a' w' e (fun _ h => h) h1 h2 h3 hd' h5
      | exit i => cases hk
      | ret => cases hk⟩
    cases dr
    · exact region_wp hT hE id _ s.heap g w _ C s a w g h hs .refl ht rfl
    · exact region_draw_wp hm hT hE id _ _ s a w g ⟨fun x st' g' a' w' e hk h1 h2 h3 h4 h5 => by
        have hd' : MRep K0 K g' w' a'.defers := by rw [h4]; exact hd.mono h2
        cases x with
        | normal => exact CC st' g' a' w' e hk h1 h2 h3 h4 h5
        | _ => cases hk; exact D.on K g' a' w' e (fun _ h => h) h1 h2 h3 hd' h5⟩ h hs ht rfl
  | .seq p q, s, x1, s1, a, w, g, K, Q, hK, hro, h, hs, ht, hd, D => by
    simp only [ev] at h
    obtain ⟨y, s2, h1, h2⟩ := ev_pair hE h
    refine wpIn_seq (ev_wp hm hT hE N p s y s2 a w g K _ hK (fun hr => by have := hro hr; simp [hasRange] at this; exact this.1) h1 hs ht hd ⟨fun K1 g' a' w' e k1 i1 i2 i3 i4 i5 => ?_⟩)
    cases y with
    | normal =>
      rw [xr_normal i5]
      exact ev_wp hm hT hE N q s2 x1 s1 a' w' g' K1 Q (fun b hb => k1 b (hK b hb)) (fun hr => by have := hro hr; simp [hasRange] at this; exact this.2) h2 i1 i3 i4 ⟨fun K2 g2 a2 w2 e2 k2 j1 j2 j3 j4 j5 => D.on K2 g2 a2 w2 e2 (fun b hb => k2 b (k1 b hb)) j1 (i2.trans (j2.less k1)) j3 j4 j5⟩
    | exit i =>
      cases h2
      have := xr_exit i5
      subst this
      exact D.on K1 g' a' w' _ k1 i1 i2 i3 i4 i5
    | ret =>
      cases h2
      have := xr_ret i5
      subst this
      exact D.on K1 g' a' w' _ k1 i1 i2 i3 i4 i5
    | pan v =>
      cases h2
      obtain ⟨ch, e'⟩ := xr_pan i5
      subst e'
      exact D.on K1 g' a' w' _ k1 i1 i2 i3 i4 i5
  | .cond o p q, s, x1, s1, a, w, g, K, Q, hK, hro, h, hs, ht, hd, D => by
    simp only [ev] at h
    split at h
    · rename_i t hb
      have hv := ht.ev o
      rw [hb] at hv
      have hc := rep_bool hv
      simp only [real_part] at h
      refine wpIn_cond hc ?_
      cases t
      · exact ev_wp hm hT hE N q s x1 s1 a w g K Q hK (fun hr => by have := hro hr; simp [hasRange] at this; exact this.2) h hs ht hd D
      · exact ev_wp hm hT hE N p s x1 s1 a w g K Q hK (fun hr => by have := hro hr; simp [hasRange] at this; exact this.1) h hs ht hd D
    · cases h
  | .block id p, s, x1, s1, a, w, g, K, Q, hK, hro, h, hs, ht, hd, D => by
    simp only [ev] at h
    obtain ⟨y, s2, h1, h2⟩ := ev_pair hE h
    refine wpIn_block (ev_wp hm hT hE N p s y s2 a w g K _ hK hro h1 hs ht hd ⟨fun K1 g' a' w' e k1 i1 i2 i3 i4 i5 => ?_⟩)
    cases y with
    | normal =>
      cases h2
      have := xr_normal i5
      subst this
      exact D.on K1 g' a' w' _ k1 i1 i2 i3 i4 i5
    | exit i =>
      have := xr_exit i5
      subst this
      simp only at h2
      simp only [Exit.inBlock]
      split
      · rename_i e
        rw [if_pos e] at h2
        cases h2
        exact D.on K1 g' a' w' _ k1 i1 i2 i3 i4 trivial
      · rename_i e
        rw [if_neg e] at h2
        cases h2
        exact D.on K1 g' a' w' _ k1 i1 i2 i3 i4 i5
    | ret =>
      cases h2
      have := xr_ret i5
      subst this
      exact D.on K1 g' a' w' _ k1 i1 i2 i3 i4 i5
    | pan v =>
      cases h2
      obtain ⟨ch, e'⟩ := xr_pan i5
      subst e'
      exact D.on K1 g' a' w' _ k1 i1 i2 i3 i4 i5
  | .loop p, s, x1, s1, a, w, g, K, Q, hK, hro, h, hs, ht, hd, D => by
    simp only [ev] at h
    split at h
    · cases h
    · rename_i L hL
      split at h
      · cases h
      · rename_i x0 hx0
        have A0 := at_entry (a := a) hL hx0 hs ht
        obtain ⟨R, hR, hRK⟩ := loop_some h
        clear h
        generalize hfeq : (fun x => ev real T env N p (α := LRes L.ty (AExit × AS)) (L.state s true x) _) = f at hR
        have key : ∀ (n : Nat) (x : L.ty) (b : Act) (w1 : World) (g1 : Gh) (K1 : Nat → Prop), (∀ b, K b → K1 b) → iterL n f x = some R → St K1 (L.state s true x).heap g1 w1 → Le K s.heap g w (L.state s true x).heap g1 w1 → TRep (L.state s true x).heap g1 w1 (L.state s true x).tmps b.tmps → MRep K0 K1 g1 w1 b.defers →
            Code.roundsIn (FW ro) 0 P p Q n b w1 := by
          intro n
          induction n with
          | zero => intro x b w1 g1 K1 _ hi _ _ _ _; cases hi
          | succ n ih =>
            intro x b w1 g1 K1 k0 hi k1 k2 k3 k4
            simp only [iterL] at hi
            cases hfx : f x with
            | none => rw [hfx] at hi; cases hi
            | some R1 =>
              rw [hfx] at hi
              have hfx' := hfx
              rw [← hfeq] at hfx'
              obtain ⟨y, s2, h1, h2⟩ := ev_pair hE hfx'
              have fr := ev_frame hE N p _ y s2 h1
              refine ev_wp hm hT hE N p _ y s2 b w1 g1 K1 _ (fun b hb => k0 b (hK b hb)) hro h1 k1 k3 k4 ⟨fun K2 g' a' w' e kk i1 i2 i3 i4 i5 => ?_⟩
              have k02 : ∀ b, K b → K2 b := fun b hb => kk b (k0 b hb)
              have lall := k2.trans (i2.less k0)
              cases y with
              | normal =>
                have := xr_normal i5
                subst this
                simp only at h2
                split at h2
                · rename_i z hz
                  cases h2
                  have A := at_round hL hx0 A0 i2 fr (.inl rfl) hz i1 i3
                  have l3 := A.le' hz true k02 lall
                  exact ih z a' w' _ K2 k02 hi (A.st' hz true) l3 (A.tr' hz true) (A.mr hz i4)
                · cases h2
              | exit id =>
                have := xr_exit i5
                subst this
                simp only at h2
                split at h2
                · split at h2
                  · rename_i z hz
                    cases h2
                    simp only at hi
                    cases hi
                    rcases hRK with ⟨id', y', e1, e2⟩ | e1
                    · cases e1
                      obtain ⟨_, e3⟩ := goOut_some _ e2
                      cases e3
                      have A := at_round hL hx0 A0 i2 fr (.inr ⟨_, rfl⟩) hz i1 i3
                      exact D.on K2 _ a' w' _ k02 (A.st' hz false) (A.le' hz false k02 lall) (A.tr' hz false) (A.mr hz i4) rfl
                    · cases e1
                  · cases h2
                · cases h2
              | ret =>
                have := xr_ret i5
                subst this
                have e0 : R1 = .fin (.ret, { s2 with heap := unlockH s.heap s2.heap }) := by
                  have : some (LRes.fin (AExit.ret, { s2 with heap := unlockH s.heap s2.heap })) = some R1 := h2
                  cases this; rfl
                subst e0
                simp only at hi
                cases hi
                rcases hRK with ⟨id', y', e1, e2⟩ | e1
                · cases e1
                · cases e1
                  have al := unlock_alike s.heap s2.heap
                  exact D.on K2 g' a' w' _ k02 (al.st i1) (unlock_le lall) (al.trep i3) i4 i5
              | pan v =>
                obtain ⟨ch, e'⟩ := xr_pan i5
                subst e'
                have e0 : R1 = .fin (.pan v, { s2 with heap := unlockH s.heap s2.heap }) := by
                  have : some (LRes.fin (AExit.pan v, { s2 with heap := unlockH s.heap s2.heap })) = some R1 := h2
                  cases this; rfl
                subst e0
                simp only at hi
                cases hi
                rcases hRK with ⟨id', y', e1, e2⟩ | e1
                · cases e1
                · cases e1
                  have al := unlock_alike s.heap s2.heap
                  exact D.on K2 g' a' w' _ k02 (al.st i1) (unlock_le lall) (al.trep i3) i4 (xr_alike al i5)
        exact wpIn_loop_rounds N (key N x0 a w _ K (fun _ h => h) hR (A0.st' hx0 true) (A0.le' hx0 true (fun _ h => h) .refl) (A0.tr' hx0 true) (A0.mr hx0 hd))
  | .exit id, s, x1, s1, a, w, g, K, Q, hK, hro, h, hs, ht, hd, D => by cases h; exact wpIn_exit (D.on K g a w _ (fun _ h => h) hs .refl ht hd rfl)
  | .ret, s, x1, s1, a, w, g, K, Q, hK, hro, h, hs, ht, hd, D => by cases h; exact wpIn_ret (D.on K g a w _ (fun _ h => h) hs .refl ht hd trivial)
  | .scope p, s, x1, s1, a, w, g, K, Q, hK, hro, h, hs, ht, hd, D => by
    simp only [ev] at h
    refine wpIn_scope' (ev_wp hm hT hE N p s x1 s1 a w g K _ hK hro h hs ht hd ⟨fun K1 g' a' w' e k1 i1 i2 i3 i4 i5 => ?_⟩)
    have := D.on K1 g' a' w' e k1 i1 i2 i3 i4 i5
    cases e with
    | goto l => cases x1 <;> cases i5
    | _ => exact this
  | .goto _, s, x1, s1, a, w, g, K, Q, hK, hro, h, hs, ht, hd, D => by cases h
  | .rangeFunc f ps asg bo, s, x1, s1, a, w, g, K, Q, hK, hro, h, hs, ht, hd, D => by
    simp only [ev] at h
    cases hr : hasRange asg || hasRange bo
    · rw [hr] at h
      simp only [cond_false] at h
      have : ro = none := by
        cases ro with
        | none => rfl
        | some l => have := hro rfl; cases this
      subst this
      exact range_wp hE hK h hs ht hd D
    · rw [hr] at h; cases h
  | .refuse _, s, x1, s1, a, w, g, K, Q, hK, hro, h, hs, ht, hd, D => by cases h
end
end Go.Proofs.Ytcbfmkfmdcabmaa

namespace Go.Proofs.Ytcbfmkfmdcabmaa
open Go.RowKit
theorem peek2_alive {h : List ABlk} {v u : AVal} (hp : peek2 h v = some u) : ∀ i ∈ v.named2, alive h i := by
  intro i hi
  unfold peek2 at hp
  split at hp
  · rename_i vs
    split at hp
    · rename_i us hus
      obtain ⟨c, hc, hi⟩ := List.mem_flatMap.1 hi
      obtain ⟨j, hj, rfl⟩ := List.mem_iff_getElem.1 hc
      obtain ⟨h1, h2⟩ := peekL_get hus
      exact peek1_alive (h2 j _ _ (List.getElem?_eq_getElem hj) (List.getElem?_eq_getElem (by omega))) i hi
    · cases hp
  · rename_i t v
    split at hp
    · rename_i u' hu
      exact peek1_alive hu i hi
    · cases hp
  · rename_i f cs
    split at hp
    · rename_i us hus
      obtain ⟨c, hc, hi⟩ := List.mem_flatMap.1 hi
      obtain ⟨j, hj, rfl⟩ := List.mem_iff_getElem.1 hc
      obtain ⟨h1, h2⟩ := peekL_get hus
      exact peekP_alive (h2 j _ _ (List.getElem?_eq_getElem hj) (List.getElem?_eq_getElem (by omega))) i hi
    · cases hp
  · rename_i v h1 h2 h3
    refine peek1_alive hp i ?_
    unfold AVal.named2 at hi
    split at hi
    · exact absurd rfl (h1 _)
    · exact absurd rfl (h2 _ _)
    · exact absurd rfl (h3 _ _)
    · exact hi
def resF (tmps : Array Value) : ResultVar → Sem Value
  | .tmp t => pure (tmps.getD t Go.undef)
  | .cell a t => do loadVar t (← asAddr (tmps.getD a Go.undef))
theorem results_eq (fn : Func) (tmps : Array Value) : results fn tmps = (fn.results.mapM (resF tmps) >>= fun vs => pure (if h : vs.size = 1 then vs[0] else .tuple vs)) := by
  unfold results
  congr 1
section
variable {P : Program} {T : Tab} {env : Env}
theorem out_of {M : Nat → Prop} {w w' : World} {s1 : AS} {g' : Gh} {v u : AVal} {x : Value} (hs : St (fun b => b < w.heap.size) s1.heap g' w') (hl : Le (fun b => b < w.heap.size) [] ⟨fun _ => Go.undef, M⟩ w s1.heap g' w') (hr : Rep s1.heap g' w' v x) (hp : peek2 s1.heap v = some u) :
    ∃ M' : Nat → Prop, (∀ b, M b → M' b) ∧ (∀ b, M' b → M b ∨ w.heap.size ≤ b) ∧ (∀ b, M' b → b < w'.heap.size) ∧ Below w.heap.size w w' ∧ Rep [] ⟨fun _ => Go.undef, M'⟩ w' u x := by
  refine ⟨(g'.plus v.named2).M, fun b hb => .inl (hl.m b hb), fun b hb => ?_, fun b hb => ?_, ⟨hl.os, hl.tape, hl.output, hl.size, hl.k⟩, ?_⟩
  · rcases hb with hb | ⟨i, hi, hb⟩
    · exact (hl.new b hb).imp id fun h => Nat.le_of_not_lt h
    · exact .inr (Nat.le_of_not_lt (hs.sep i b (peek2_alive hp i hi) hb).1)
  · rcases hb with hb | ⟨i, hi, hb⟩
    · exact hs.low b hb
    · exact (hs.sep i b (peek2_alive hp i hi) hb).2.2
  · exact peek2_rep (g' := ⟨fun _ => Go.undef, (g'.plus v.named2).M⟩) hs hr hp (fun b hb => Or.inl hb) fun i hi b hb => Or.inr ⟨i, hi, hb⟩
theorem res_run (hT : TabOk P T) {K : Nat → Prop} {s : AS} {g : Gh} {w : World} {tmps : Array Value} (hs : St K s.heap g w) (ht : TRep s.heap g w s.tmps tmps) : ∀ (rs : List ResultVar) (vs : List AVal), resOf T s rs = some vs →
    ∃ xs : List Value, (rs.mapM (resF tmps)).run P w = .ok xs w ∧ vs.length = xs.length ∧ ∀ (j : Nat) c x, vs[j]? = some c → xs[j]? = some x → Rep s.heap g w c x
  | [], vs, h => by
    simp only [resOf, Option.some.injEq] at h
    subst h
    exact ⟨[], by simp, rfl, fun j c x hc => by simp at hc⟩
  | .tmp t :: r, vs, h => by
    simp only [resOf] at h
    split at h
    · rename_i l hl
      cases h
      obtain ⟨xs, h1, h2, h3⟩ := res_run hT hs ht r l hl
      refine ⟨tmps.getD t Go.undef :: xs, ?_, by simp [h2], fun j c x hc hx => ?_⟩
      · rw [List.mapM_cons, Sem.run_bind]
        show ((List.mapM (resF tmps) r >>= _ : Sem _)).run P w = _
        rw [Sem.run_bind, h1]
        rfl
      · cases j with
        | zero =>
          simp only [List.getElem?_cons_zero, Option.some.injEq] at hc hx
          subst hc; subst hx
          exact ht.get t
        | succ j => exact h3 j c x (by simpa using hc) (by simpa using hx)
    · cases h
  | .cell a t :: r, vs, h => by
    simp only [resOf] at h
    split at h
    · rename_i cs l hc hl
      split at h
      · rename_i v hv
        cases h
        obtain ⟨xs, h1, h2, h3⟩ := res_run hT hs ht r l hl
        obtain ⟨b, n, e1, e2⟩ := cellsAt_rep hs (ht.get a) hc
        obtain ⟨z, e3, e4⟩ := load_var hT e2 hv
        refine ⟨z :: xs, ?_, by simp [h2], fun j c x hc hx => ?_⟩
        · have hz : (resF tmps (.cell a t)).run P w = .ok z w := by
            simp only [resF]
            rw [e1]
            exact e3
          rw [List.mapM_cons, Sem.run_bind, hz]
          show ((List.mapM (resF tmps) r >>= _ : Sem _)).run P w = _
          rw [Sem.run_bind, h1]
          rfl
        · cases j with
          | zero =>
            simp only [List.getElem?_cons_zero, Option.some.injEq] at hc hx
            subst hc; subst hx
            exact e4
          | succ j => exact h3 j c x (by simpa using hc) (by simpa using hx)
      · cases h
    · cases h
theorem results_rep (hT : TabOk P T) {K : Nat → Prop} {s : AS} {g : Gh} {w : World} {tmps : Array Value} (hs : St K s.heap g w) (ht : TRep s.heap g w s.tmps tmps) {fn : Func} {vs : List AVal} (h : resOf T s fn.results.toList = some vs) :
    ∃ x, (results fn tmps).run P w = .ok x w ∧ Rep s.heap g w (match (generalizing := false) vs with | [v] => v | vs => .tup vs) x := by
  obtain ⟨xs, h1, h2, h3⟩ := res_run hT hs ht _ _ h
  refine ⟨if h : xs.toArray.size = 1 then xs.toArray[0] else .tuple xs.toArray, ?_, ?_⟩
  · rw [results_eq, Array.mapM_eq_mapM_toList, bind_map_left, Sem.run_bind, h1]
    rfl
  · match vs, xs, h2 with
    | [], [], _ => exact .tup _ _ rfl fun j c x hc => by simp at hc
    | [v], [x], _ => exact h3 0 v x rfl rfl
    | v :: v' :: vs, x :: x' :: xs, h2 =>
      simp only [List.size_toArray, List.length_cons]
      rw [dif_neg (by omega)]
      exact .tup _ _ (by simpa using h2) fun j c y hc hy => h3 j c y hc (by simpa using hy)
theorem body_nat (hE : EnvOk P env) (N : Nat) (fn : Func) {α : Type} (args : List AVal) (h : List ABlk) (k : AExit → AVal → List ABlk → Option α) :
    evBody real T env N fn args h k = (evBody real T env N fn args h tripE).bind fun p => k p.1 p.2.1 p.2.2 := by
  unfold evBody
  split
  · rfl
  · rename_i c _
    refine bind_nat (e := fun k => ev real T env N c _ k) (fun k => ev_nat hE N c _ k) (fun p : AExit × AVal × List ABlk => k p.1 p.2.1 p.2.2) fun x s' => ?_
    split
    · rfl
    · rfl
    · split <;> rfl
theorem leaves_marks {fn : Func} {tmps : Array Value} {R : Ending → World → Prop} {K K' : Nat → Prop} {h0 h : List ABlk} {g0 g : Gh} {w0 : World} {u : FrameMode} (hu : u ≠ .run) (hkk : ∀ b, K b → K' b) : ∀ (rs : List Nat) (w : World), rs.Nodup → (∀ r ∈ rs, K' r ∧ ¬ K r ∧ ¬ g.M r ∧ w.heap[r]? = some (.deferred (some []))) →
    St K' h g w → Le K h0 g0 w0 h g w → (∀ w', St K' h g w' → Le K h0 g0 w0 h g w' → Le K h g w h g w' → LeavesIn (FW none) 0 P fn tmps R [] u w') →
    LeavesInM (FW none) 0 P fn tmps R (rs.map fun r => ({ target := .collected r, args := #[] } : Deferred)) u w
  | [], w, _, _, hs, hl, hq => hq w hs hl .refl
  | r :: rs, w, hn, hr, hs, hl, hq => by
    obtain ⟨r1, r2, r3, r4⟩ := hr r (by simp)
    have hw : ∀ n, n ≠ r → (w.putObj r (.deferred none)).heap[n]? = w.heap[n]? := fun n hn => World.putObj_heap_other hn
    have l1 : Le K h g w h g (w.putObj r (.deferred none)) := ⟨Nat.le_refl _, fun _ h => h, fun _ h => h, fun _ h => .inl h, fun b hb => hw b fun e => r3 (e ▸ hb), fun b hb => hw b fun e => r2 (e ▸ hb), fun _ wr cs' _ h => ⟨wr, cs', h, rfl, rfl⟩, fun _ wr _ _ xs' _ h => ⟨wr, xs', h, fun _ => rfl, rfl⟩, fun _ st pend _ _ _ _ _ h => ⟨st, pend, h, rfl⟩, fun _ _ h => h, fun _ _ _ _ h => h, rfl, rfl, rfl, by simp⟩
    have s1 : St K' h g (w.putObj r (.deferred none)) := ⟨fun i b hb => (hs.blk i b hb).mono l1 rfl fun n hd hn => hw n fun e => (hs.sep i n ⟨b, hb, hd⟩ hn).1 (e ▸ r1), hs.inj, fun i b ha hb => by rw [World.putObj_size]; exact hs.sep i b ha hb, fun b hb => by rw [World.putObj_size]; exact hs.low b hb, fun b hb => by rw [World.putObj_size]; exact hs.klow b hb⟩
    obtain ⟨n1, n2⟩ := List.nodup_cons.1 hn
    refine ⟨hu, .inl ⟨r, _, rfl, run_takeDeferred r4, leaves_marks hu hkk rs _ n2 (fun q hq' => ?_) s1 (hl.trans l1) fun w' a b c => hq w' a b (l1.trans c)⟩⟩
    obtain ⟨q1, q2, q3, q4⟩ := hr q (List.mem_cons_of_mem _ hq')
    exact ⟨q1, q2, q3, (hw q fun e => n1 (e ▸ hq')).trans q4⟩
theorem body_calls (hm : P.follows .mixedOrders = true) (hT : TabOk P T) (hE : EnvOk P env) (N : Nat) {f : FuncId} {fn : Func} (hf : P.funcs[f]? = some fn) {args : List AVal} {h h1 : List ABlk} {x : AExit} {u : AVal} (hk : evBody real T env N fn args h tripE = some (x, u, h1))
    {K : Nat → Prop} {g : Gh} {w : World} {cargs : Array Value} (hs : St K h g w) (hl : args.length = cargs.size) (hr : ∀ (j : Nat) c z, args[j]? = some c → cargs[j]? = some z → Rep h g w c z) : Calls P f cargs w (CvPost K h g w h1 x u) := by
  unfold evBody at hk
  split at hk
  · cases hk
  · rename_i c hc
    obtain ⟨x1, s1, h1', h2⟩ := ev_pair hE hk
    refine calls_of (callsIn_of_wp_marks (F := FW none) hf hc trivial (ev_wp (ro := none) (K0 := K) hm hT hE N c _ x1 s1 _ w g K _ (fun _ h => h) (fun h => by cases h) h1' hs ⟨by simp [hl], fun j c x hc hx => ?_⟩ MRep.nil ⟨fun K' g' a' w' e kk i1 i2 i3 i4 i5 => ?_⟩))
    · rcases Nat.lt_or_ge j args.length with hj | hj
      · rw [List.getElem?_append_left hj] at hc
        rw [Array.getElem?_append_left (by omega)] at hx
        exact hr j c x hc hx
      · rw [List.getElem?_append_right hj, List.getElem?_replicate] at hc
        rw [Array.getElem?_append_right (by omega), Array.getElem?_replicate] at hx
        split at hc
        · cases hc
          split at hx
          · cases hx; exact .undef
          · cases hx
        · cases hc
    · obtain ⟨rs, n1, n2, n3⟩ := i4
      have ret : ∀ vs, resOf T s1 fn.results.toList = some vs → tripE .normal (match (generalizing := false) vs with | [v] => v | vs => .tup vs) s1.heap = some (x, u, h1) → LeavesInM (FW none) 0 P fn a'.tmps (CvPost K h g w h1 x u) a'.defers .returning w' := fun vs hvs ho => by
        rw [n2]
        refine leaves_marks (by simp) kk rs w' n1 n3 i1 i2 fun w2 j1 j2 j3 => ?_
        obtain ⟨z, e1, e2⟩ := results_rep hT j1 (i3.mono j3) hvs
        cases ho
        exact ⟨z, e1, g', j1.less kk, j2, z, rfl, e2⟩
      split at h2
      · rename_i v
        cases h2
        cases e with
        | panic ch =>
          obtain ⟨y, rfl, hy⟩ := i5
          show LeavesInM (FW none) 0 P fn a'.tmps _ a'.defers (.panicking _) w'
          rw [n2]
          exact leaves_marks (by simp) kk rs w' n1 n3 i1 i2 fun w2 j1 j2 j3 => ⟨g', j1.less kk, j2, y, rfl, hy.mono j3⟩
        | _ => cases i5
      · cases h2
      · rename_i hn1 hn2
        split at h2
        · cases h2
        · rename_i vs hvs
          cases x1 with
          | normal => rw [xr_normal i5]; exact ret vs hvs h2
          | ret => rw [xr_ret i5]; exact ret vs hvs h2
          | exit i => exact absurd rfl (hn2 i)
          | pan v => exact absurd rfl (hn1 v)
theorem post_of_cv {M : Nat → Prop} {w : World} {h1 : List ABlk} {x : AExit} {u : AVal} {out : AOut} (hk : (match x with
      | .pan v =>
        match peek2 h1 v with
        | some u => some (AOut.pan u)
        | none => none
      | _ =>
        match peek2 h1 u with
        | some u => some (AOut.ret u)
        | none => none) = some out) {e : Ending} {w' : World} (h : CvPost (fun b => b < w.heap.size) [] ⟨fun _ => Go.undef, M⟩ w h1 x u e w') : CPost M w out e w' := by
  obtain ⟨g', s1, l1, hx⟩ := h
  cases x with
  | exit i => exact hx.elim
  | ret => exact hx.elim
  | normal =>
    obtain ⟨z, rfl, hz⟩ := hx
    simp only at hk
    split at hk
    · rename_i u' hu
      cases hk
      obtain ⟨M', m1, m2, m3, m4, m5⟩ := out_of (s1 := ⟨[], h1⟩) s1 l1 hz hu
      exact ⟨M', m1, m2, m3, m4, z, rfl, m5⟩
    · cases hk
  | pan v =>
    obtain ⟨z, rfl, hz⟩ := hx
    simp only at hk
    split at hk
    · rename_i u' hu
      cases hk
      obtain ⟨M', m1, m2, m3, m4, m5⟩ := out_of (s1 := ⟨[], h1⟩) s1 l1 hz hu
      exact ⟨M', m1, m2, m3, m4, z, rfl, m5⟩
    · cases hk
theorem st_start {w : World} {M : Nat → Prop} (hM : ∀ b, M b → b < w.heap.size) : St (fun b => b < w.heap.size) [] ⟨fun _ => Go.undef, M⟩ w :=
  ⟨fun i b hb => by simp at hb, fun i j b hi => by obtain ⟨b, hb, _⟩ := hi; simp at hb, fun i b hi => by obtain ⟨b, hb, _⟩ := hi; simp at hb, hM, fun b hb => hb⟩
theorem fn_ok (hm : P.follows .mixedOrders = true) (hT : TabOk P T) (hE : EnvOk P env) (N : Nat) {f : FuncId} {fn : Func} (hf : P.funcs[f]? = some fn) (hen : ∀ args w, (callFunc f args).run P w = .ok (.enter f args) w) : FspOk P f (evFn real T env N fn) where
  enter := hen
  nat := fun α args k => by
    unfold evFn
    rw [body_nat hE, body_nat hE (α := AOut)]
    cases evBody real T env N fn args [] tripE with
    | none => rfl
    | some p =>
      obtain ⟨x, v, h⟩ := p
      cases x <;> (simp only [Option.bind_some]; split <;> rfl)
  calls := fun args out hout M w cargs hM hl hr => by
    unfold evFn at hout
    rw [body_nat hE] at hout
    cases hq : evBody real T env N fn args [] tripE with
    | none => rw [hq] at hout; cases hout
    | some p =>
      obtain ⟨x, v, h⟩ := p
      rw [hq] at hout
      exact (body_calls hm hT hE N hf hq (st_start hM) hl hr).mono fun e w' hp => post_of_cv hout hp
end
end Go.Proofs.Ytcbfmkfmdcabmaa

namespace Go.Proofs.Ytcbfmkfmdcabmaa
def eqS : AVal → AVal → Bool
  | .int j m, .int k n => decide (j = k) && decide (m = n)
  | .bool b, .bool c => b == c
  | .str s, .str t => decide (s = t)
  | .nils, .nils => true
  | .nilif, .nilif => true
  | .nilfn, .nilfn => true
  | .nilmp, .nilmp => true
  | .nilpt, .nilpt => true
  | .any, .any => true
  | _, _ => false
def eqL : List AVal → List AVal → Bool
  | [], [] => true
  | a :: r, b :: q => eqS a b && eqL r q
  | _, _ => false
def eqV : AVal → AVal → Bool
  | .agg cs, .agg ds => eqL cs ds
  | a, b => eqS a b
theorem eqS_spec {a b : AVal} (h : eqS a b = true) : a = b := by
  unfold eqS at h
  split at h
  · simp only [Bool.and_eq_true, decide_eq_true_eq] at h; rw [h.1, h.2]
  · rw [beq_iff_eq.1 h]
  · rw [of_decide_eq_true h]
  all_goals first | rfl | cases h
theorem eqL_spec : ∀ {a b : List AVal}, eqL a b = true → a = b
  | [], [], _ => rfl
  | a :: r, b :: q, h => by
    simp only [eqL, Bool.and_eq_true] at h
    rw [eqS_spec h.1, eqL_spec h.2]
  | [], _ :: _, h => by cases h
  | _ :: _, [], h => by cases h
theorem eqV_spec {a b : AVal} (h : eqV a b = true) : a = b := by
  unfold eqV at h
  split at h
  · rw [eqL_spec h]
  · exact eqS_spec h
def dB : TyD → TypeDesc → Bool
  | .int k, .int j => decide (j = k)
  | .bool, .bool => true
  | .str, .string => true
  | .sl x, .slice y => decide (y = x)
  | .arr n x, .array m y => decide (m = n) && decide (y = x)
  | .recd l, .struct fs => decide (fs.toList.map (fun f => (f.offset, f.type)) = l) && fs.toList.all (fun f => f.name != "_")
  | .map k v, .map x y => decide (x = k) && decide (y = v)
  | .ifc, .interface _ => true
  | .other, .struct _ => false
  | .other, .array _ _ => false
  | .other, .interface _ => false
  | .other, _ => true
  | _, _ => false
def zeroB : Option AVal → Option Value → Bool
  | none, _ => true
  | some z, some v => eqV (ofValue v) z
  | _, _ => false
def tyB (P : Program) (t : TypeId) (e : TyE) : Bool :=
  (match P.underlying t with
    | some d => dB e.d d && (match e.d with | .recd _ => !P.stoodInHeld t && !P.eqGuardType P.depth t | .arr _ _ => !P.eqGuardType P.depth t | _ => true)
    | none => false) &&
  (match P.info? t with
    | some i => decide (i.size = e.size) && decide (i.bytes = e.bytes) && zeroB e.zero i.zero
    | none => false)
theorem ty_ok {P : Program} {t : TypeId} {e : TyE} (h : tyB P t e = true) : TyOk P t e := by
  unfold tyB at h
  simp only [Bool.and_eq_true] at h
  obtain ⟨h1, h2⟩ := h
  split at h1
  · rename_i d hd
    split at h2
    · rename_i i hi
      simp only [Bool.and_eq_true, decide_eq_true_eq] at h2
      obtain ⟨⟨h3, h4⟩, h5⟩ := h2
      refine ⟨?_, fun n x hx => ?_, i, hi, h3, h4, fun z hz => ?_⟩
      · rw [hd]
        simp only [Bool.and_eq_true] at h1
        obtain ⟨h1, h1'⟩ := h1
        cases hx : e.d with
        | recd l =>
          rw [hx] at h1 h1'
          cases d <;> first | (simp [dB] at h1; done) | skip
          rename_i fs
          simp only [dB, Bool.and_eq_true, decide_eq_true_eq] at h1
          simp only [Bool.and_eq_true, Bool.not_eq_true'] at h1'
          exact ⟨fs, rfl, h1.1, h1'.1, h1'.2, fun f hf => by have := List.all_eq_true.1 h1.2 f hf; simpa using this⟩
        | _ => rw [hx] at h1 <;> cases d <;> simp_all [dB]
      · simp only [Bool.and_eq_true] at h1
        have h1' := h1.2
        rw [hx] at h1'
        simpa using h1'
      · rw [hz] at h5
        cases hv : i.zero with
        | none => rw [hv] at h5; cases h5
        | some v => rw [hv] at h5; exact ⟨v, rfl, eqV_spec h5⟩
    · cases h2
  · cases h1
def tabB (P : Program) (T : Tab) : Bool := T.all fun p => tyB P p.1 p.2
theorem tab_at {t : TypeId} {e : TyE} : ∀ (T : Tab), T.at t = some e → (t, e) ∈ T
  | [], h => by cases h
  | (u, e') :: r, h => by
    simp only [Tab.at] at h
    split at h
    · rename_i hu
      cases h; subst hu; simp
    · exact List.mem_cons_of_mem _ (tab_at r h)
theorem tab_ok {P : Program} {T : Tab} (h : tabB P T = true) : TabOk P T := fun t e he =>
  ty_ok (List.all_eq_true.1 h (t, e) (tab_at T he))
end Go.Proofs.Ytcbfmkfmdcabmaa

namespace Go.Proofs.Ytcbfmkfmdcabmaa
def tab : Tab := [
  (0, ⟨.other, 1, 0, none, none⟩),
  (1, ⟨.other, 1, 8, some (.nilfn), none⟩),
  (2, ⟨.int .i64, 1, 8, some (.int .i64 (0)), some (.int .i64)⟩),
  (3, ⟨.int .i64, 1, 8, some (.int .i64 (0)), some (.int .i64)⟩),
  (4, ⟨.bool, 1, 1, some (.bool false), some .bool⟩),
  (5, ⟨.int .u8, 1, 1, some (.int .u8 (0)), some (.int .u8)⟩),
  (6, ⟨.int .u8, 1, 1, some (.int .u8 (0)), some (.int .u8)⟩),
  (7, ⟨.recd [(0, 2), (1, 3), (2, 4), (3, 6)], 4, 24, some (.agg [.int .i64 (0), .int .i64 (0), .bool false, .int .u8 (0)]), some (.recd (.cons (.int .i64) (.cons (.int .i64) (.cons .bool (.cons (.int .u8) .nil)))))⟩),
  (8, ⟨.recd [(0, 2), (1, 3), (2, 4), (3, 6)], 4, 24, some (.agg [.int .i64 (0), .int .i64 (0), .bool false, .int .u8 (0)]), some (.recd (.cons (.int .i64) (.cons (.int .i64) (.cons .bool (.cons (.int .u8) .nil)))))⟩),
  (9, ⟨.str, 1, 16, some (.str ByteArray.empty), some .str⟩),
  (10, ⟨.str, 1, 16, some (.str ByteArray.empty), some .str⟩),
  (11, ⟨.str, 1, 16, some (.str ByteArray.empty), some .str⟩),
  (12, ⟨.int .u64, 1, 8, some (.int .u64 (0)), some (.int .u64)⟩),
  (15, ⟨.other, 1, 8, some (.nilpt), none⟩),
  (16, ⟨.other, 1, 8, some (.nilpt), none⟩),
  (17, ⟨.other, 1, 8, some (.nilpt), none⟩),
  (20, ⟨.ifc, 1, 16, some (.nilif), none⟩),
  (21, ⟨.int .i32, 1, 4, some (.int .i32 (0)), some (.int .i32)⟩),
  (22, ⟨.sl 53, 1, 24, some (.nils), some (.sl (.sl (.int .i64)))⟩),
  (23, ⟨.arr 2 22, 2, 48, some (.agg [.nils, .nils]), some (.recd (.cons (.sl (.sl (.int .i64))) (.cons (.sl (.sl (.int .i64))) .nil)))⟩),
  (24, ⟨.recd [(0, 3), (1, 23)], 3, 56, some (.agg [.int .i64 (0), .nils, .nils]), some (.recd (.cons (.int .i64) (.cons (.recd (.cons (.sl (.sl (.int .i64))) (.cons (.sl (.sl (.int .i64))) .nil))) .nil)))⟩),
  (25, ⟨.recd [(0, 3), (1, 23)], 3, 56, some (.agg [.int .i64 (0), .nils, .nils]), some (.recd (.cons (.int .i64) (.cons (.recd (.cons (.sl (.sl (.int .i64))) (.cons (.sl (.sl (.int .i64))) .nil))) .nil)))⟩),
  (26, ⟨.recd [(0, 3), (1, 3), (2, 3)], 3, 24, some (.agg [.int .i64 (0), .int .i64 (0), .int .i64 (0)]), some (.recd (.cons (.int .i64) (.cons (.int .i64) (.cons (.int .i64) .nil))))⟩),
  (27, ⟨.recd [(0, 3), (1, 3), (2, 3)], 3, 24, some (.agg [.int .i64 (0), .int .i64 (0), .int .i64 (0)]), some (.recd (.cons (.int .i64) (.cons (.int .i64) (.cons (.int .i64) .nil))))⟩),
  (28, ⟨.other, 1, 8, some (.nilfn), none⟩),
  (29, ⟨.other, 1, 8, some (.nilfn), none⟩),
  (30, ⟨.int .i64, 1, 8, some (.int .i64 (0)), some (.int .i64)⟩),
  (31, ⟨.other, 1, 0, none, none⟩),
  (32, ⟨.other, 1, 8, some (.nilfn), none⟩),
  (33, ⟨.other, 1, 0, none, none⟩),
  (34, ⟨.other, 1, 8, some (.nilfn), none⟩),
  (35, ⟨.other, 1, 8, some (.nilfn), none⟩),
  (36, ⟨.other, 1, 8, some (.nilfn), none⟩),
  (37, ⟨.other, 1, 8, some (.nilfn), none⟩),
  (38, ⟨.other, 1, 8, some (.nilfn), none⟩),
  (39, ⟨.other, 1, 8, some (.nilfn), none⟩),
  (40, ⟨.sl 5, 1, 24, some (.nils), some (.sl (.int .u8))⟩),
  (41, ⟨.int .i64, 1, 8, some (.int .i64 (0)), some (.int .i64)⟩),
  (42, ⟨.recd [(0, 41), (1, 41)], 2, 16, some (.agg [.int .i64 (0), .int .i64 (0)]), some (.recd (.cons (.int .i64) (.cons (.int .i64) .nil)))⟩),
  (43, ⟨.recd [(0, 41), (1, 41)], 2, 16, some (.agg [.int .i64 (0), .int .i64 (0)]), some (.recd (.cons (.int .i64) (.cons (.int .i64) .nil)))⟩),
  (44, ⟨.other, 1, 0, none, none⟩),
  (45, ⟨.other, 1, 8, some (.nilfn), none⟩),
  (46, ⟨.other, 1, 8, some (.nilfn), none⟩),
  (47, ⟨.other, 1, 8, some (.nilpt), none⟩),
  (48, ⟨.map 27 41, 1, 8, some (.nilmp), none⟩),
  (49, ⟨.recd [(0, 25), (3, 4), (4, 4), (5, 48)], 6, 72, some (.agg [.int .i64 (0), .nils, .nils, .bool false, .bool false, .nilmp]), none⟩),
  (50, ⟨.recd [(0, 25), (3, 4), (4, 4), (5, 48)], 6, 72, some (.agg [.int .i64 (0), .nils, .nils, .bool false, .bool false, .nilmp]), none⟩),
  (51, ⟨.other, 1, 8, some (.nilfn), none⟩),
  (52, ⟨.other, 1, 8, some (.nilfn), none⟩),
  (53, ⟨.sl 3, 1, 24, some (.nils), some (.sl (.int .i64))⟩),
  (54, ⟨.other, 1, 8, some (.nilfn), none⟩),
  (55, ⟨.other, 1, 8, some (.nilfn), none⟩),
  (56, ⟨.sl 43, 1, 24, some (.nils), some (.sl (.recd (.cons (.int .i64) (.cons (.int .i64) .nil))))⟩),
  (57, ⟨.other, 1, 0, none, none⟩),
  (58, ⟨.other, 1, 8, some (.nilfn), none⟩),
  (59, ⟨.other, 1, 8, some (.nilfn), none⟩),
  (60, ⟨.other, 1, 8, some (.nilfn), none⟩),
  (61, ⟨.other, 1, 0, none, none⟩),
  (62, ⟨.other, 1, 8, some (.nilfn), none⟩),
  (63, ⟨.other, 1, 8, some (.nilfn), none⟩),
  (64, ⟨.other, 1, 8, some (.nilfn), none⟩),
  (65, ⟨.other, 1, 8, some (.nilfn), none⟩),
  (66, ⟨.other, 1, 8, some (.nilfn), none⟩),
  (67, ⟨.other, 1, 8, some (.nilfn), none⟩),
  (68, ⟨.other, 1, 8, some (.nilfn), none⟩),
  (69, ⟨.other, 1, 8, some (.nilfn), none⟩),
  (70, ⟨.other, 1, 8, some (.nilfn), none⟩),
  (71, ⟨.recd [(0, 25), (3, 70)], 4, 64, some (.agg [.int .i64 (0), .nils, .nils, .nilfn]), none⟩),
  (72, ⟨.recd [(0, 25), (3, 70)], 4, 64, some (.agg [.int .i64 (0), .nils, .nils, .nilfn]), none⟩),
  (73, ⟨.other, 1, 8, some (.nilpt), none⟩),
  (74, ⟨.other, 1, 8, some (.nilfn), none⟩),
  (75, ⟨.other, 1, 0, none, none⟩),
  (76, ⟨.other, 1, 8, some (.nilfn), none⟩),
  (77, ⟨.other, 1, 8, some (.nilfn), none⟩),
  (78, ⟨.arr 2 3, 2, 16, some (.agg [.int .i64 (0), .int .i64 (0)]), some (.recd (.cons (.int .i64) (.cons (.int .i64) .nil)))⟩),
  (79, ⟨.other, 1, 8, some (.nilfn), none⟩),
  (80, ⟨.other, 1, 0, none, none⟩),
  (81, ⟨.other, 1, 8, some (.nilfn), none⟩),
  (82, ⟨.map 27 43, 1, 8, some (.nilmp), none⟩),
  (83, ⟨.other, 1, 8, some (.nilfn), none⟩),
  (84, ⟨.other, 1, 0, none, none⟩),
  (85, ⟨.other, 1, 8, some (.nilfn), none⟩),
  (86, ⟨.other, 1, 8, some (.nilfn), none⟩),
  (87, ⟨.other, 1, 8, some (.nilfn), none⟩),
  (88, ⟨.other, 1, 8, some (.nilfn), none⟩),
  (89, ⟨.other, 1, 8, some (.nilfn), none⟩),
  (90, ⟨.other, 1, 8, some (.nilfn), none⟩),
  (91, ⟨.other, 1, 8, some (.nilfn), none⟩),
  (92, ⟨.other, 1, 8, some (.nilfn), none⟩),
  (93, ⟨.other, 1, 8, some (.nilfn), none⟩),
  (94, ⟨.other, 1, 8, some (.nilfn), none⟩),
  (95, ⟨.arr 2 94, 2, 16, some (.agg [.nilfn, .nilfn]), none⟩),
  (96, ⟨.other, 1, 8, some (.nilfn), none⟩),
  (97, ⟨.other, 1, 8, some (.nilfn), none⟩),
  (98, ⟨.sl 41, 1, 24, some (.nils), some (.sl (.int .i64))⟩),
  (99, ⟨.other, 1, 0, none, none⟩),
  (100, ⟨.other, 1, 8, some (.nilfn), none⟩),
  (101, ⟨.other, 1, 8, some (.nilfn), none⟩),
  (102, ⟨.other, 1, 8, some (.nilfn), none⟩),
  (103, ⟨.other, 1, 8, some (.nilfn), none⟩),
  (104, ⟨.other, 1, 8, some (.nilfn), none⟩),
  (105, ⟨.other, 1, 8, some (.nilfn), none⟩),
  (106, ⟨.other, 1, 8, some (.nilfn), none⟩),
  (107, ⟨.other, 1, 8, some (.nilfn), none⟩),
  (108, ⟨.other, 1, 8, some (.nilfn), none⟩),
  (109, ⟨.other, 1, 8, some (.nilfn), none⟩),
  (110, ⟨.other, 1, 0, none, none⟩),
  (111, ⟨.other, 1, 8, some (.nilfn), none⟩),
  (112, ⟨.other, 1, 8, some (.nilfn), none⟩),
  (113, ⟨.other, 1, 8, some (.nilfn), none⟩),
  (114, ⟨.other, 1, 8, some (.nilfn), none⟩),
  (115, ⟨.other, 1, 8, some (.nilfn), none⟩),
  (116, ⟨.other, 1, 8, some (.nilfn), none⟩),
  (117, ⟨.other, 1, 8, some (.nilfn), none⟩),
  (118, ⟨.other, 1, 8, some (.nilfn), none⟩),
  (119, ⟨.other, 1, 8, some (.nilfn), none⟩),
  (120, ⟨.other, 1, 8, some (.nilfn), none⟩),
  (121, ⟨.int .u64, 1, 8, some (.int .u64 (0)), some (.int .u64)⟩),
  (122, ⟨.recd [(0, 121), (1, 121)], 2, 16, some (.agg [.int .u64 (0), .int .u64 (0)]), some (.recd (.cons (.int .u64) (.cons (.int .u64) .nil)))⟩),
  (123, ⟨.recd [(0, 121), (1, 121)], 2, 16, some (.agg [.int .u64 (0), .int .u64 (0)]), some (.recd (.cons (.int .u64) (.cons (.int .u64) .nil)))⟩),
  (124, ⟨.other, 1, 8, some (.nilfn), none⟩),
  (125, ⟨.other, 1, 8, some (.nilfn), none⟩),
  (126, ⟨.other, 1, 8, some (.nilfn), none⟩),
  (127, ⟨.other, 1, 8, some (.nilfn), none⟩),
  (128, ⟨.recd [(0, 30)], 1, 8, some (.agg [.int .i64 (0)]), some (.recd (.cons (.int .i64) .nil))⟩),
  (129, ⟨.recd [(0, 30)], 1, 8, some (.agg [.int .i64 (0)]), some (.recd (.cons (.int .i64) .nil))⟩),
  (130, ⟨.other, 1, 0, none, none⟩),
  (131, ⟨.other, 1, 0, none, none⟩),
  (132, ⟨.other, 1, 8, some (.nilfn), none⟩),
  (133, ⟨.other, 1, 8, some (.nilfn), none⟩),
  (134, ⟨.other, 1, 8, some (.nilfn), none⟩),
  (135, ⟨.other, 1, 8, some (.nilfn), none⟩),
  (136, ⟨.other, 1, 0, none, none⟩),
  (137, ⟨.other, 1, 8, some (.nilfn), none⟩),
  (138, ⟨.other, 1, 8, some (.nilfn), none⟩),
  (139, ⟨.other, 1, 8, some (.nilfn), none⟩),
  (140, ⟨.other, 1, 8, some (.nilfn), none⟩),
  (141, ⟨.int .u64, 1, 8, some (.int .u64 (0)), some (.int .u64)⟩),
  (142, ⟨.ifc, 1, 16, some (.nilif), none⟩),
  (143, ⟨.ifc, 1, 16, some (.nilif), none⟩),
  (144, ⟨.other, 1, 8, some (.nilfn), none⟩),
  (145, ⟨.other, 1, 8, some (.nilfn), none⟩),
  (146, ⟨.other, 1, 8, some (.nilpt), none⟩),
  (147, ⟨.other, 1, 8, some (.nilfn), none⟩),
  (150, ⟨.arr 0 16, 0, 0, some (.agg []), some (.recd .nil)⟩),
  (153, ⟨.other, 1, 8, some (.nilfn), none⟩),
  (154, ⟨.int .u32, 1, 4, some (.int .u32 (0)), some (.int .u32)⟩),
  (155, ⟨.int .u8, 1, 1, some (.int .u8 (0)), some (.int .u8)⟩),
  (156, ⟨.int .u8, 1, 1, some (.int .u8 (0)), some (.int .u8)⟩),
  (157, ⟨.other, 1, 8, some (.nilfn), none⟩),
  (158, ⟨.other, 1, 8, some (.nilpt), none⟩),
  (159, ⟨.int .i32, 1, 4, some (.int .i32 (0)), some (.int .i32)⟩),
  (160, ⟨.int .i32, 1, 4, some (.int .i32 (0)), some (.int .i32)⟩),
  (163, ⟨.other, 1, 8, some (.nilfn), none⟩),
  (164, ⟨.recd [(0, 9)], 1, 16, some (.agg [.str ByteArray.empty]), some (.recd (.cons .str .nil))⟩),
  (165, ⟨.recd [(0, 9)], 1, 16, some (.agg [.str ByteArray.empty]), some (.recd (.cons .str .nil))⟩),
  (166, ⟨.other, 1, 8, some (.nilpt), none⟩)]
end Go.Proofs.Ytcbfmkfmdcabmaa

namespace Go.Proofs.Ytcbfmkfmdcabmaa
theorem tabOk : TabOk Try.prog tab := tab_ok (by kernel_rfl)
end Go.Proofs.Ytcbfmkfmdcabmaa

namespace Go.Proofs.Ytcbfmkfmdcabmaa
open Go.RowKit
inductive Sm : AVal → Prop where
  | ro (e : Sh) (xs : List e.ty) : xs.length ≤ maxLen → (∀ (n : Nat) x (j : Nat) c, xs[n]? = some x → (e.cells x)[j]? = some c → Sm c) → Sm (.ro e xs)
  | agg (cs : List AVal) : (∀ (j : Nat) c, cs[j]? = some c → Sm c) → Sm (.agg cs)
  | rp (cs : List AVal) : (∀ (j : Nat) c, cs[j]? = some c → Sm c) → Sm (.rp cs)
  | fn (f : FuncId) (cs : List AVal) : (∀ (j : Nat) c, cs[j]? = some c → Sm c) → Sm (.fn f cs)
  | other (v : AVal) : (match v with | .ro _ _ | .agg _ | .rp _ | .fn _ _ => False | _ => True) → Sm v
theorem Rep.sm {h g w} {v : AVal} {x : Value} (r : Rep h g w v x) : Sm v := by
  induction r with
  | agg cs arr hl _ ih => exact .agg cs fun j c hc => ih j c _ hc (Array.getElem?_eq_getElem (by have := (List.getElem?_eq_some_iff.1 hc).1; omega))
  | fn f cs arr hl _ ih => exact .fn f cs fun j c hc => ih j c _ hc (Array.getElem?_eq_getElem (by have := (List.getElem?_eq_some_iff.1 hc).1; omega))
  | ro0 e p c hc hc' => exact .ro e [] (Nat.zero_le _) fun n x j c hn => by simp at hn
  | ro1 e xs b o c us h0 h1 h2 hm hc _ ih => exact .ro e xs (Nat.le_trans h1 h2) fun n x j cc hn hj => ih n x j cc hn hj
  | rp cs b o us hm hc _ ih => exact .rp cs fun j c hj => ih j c hj
  | _ => exact .other _ trivial
theorem Sm.len {e : Sh} {xs : List e.ty} (h : Sm (.ro e xs)) : xs.length ≤ maxLen := by
  cases h with
  | ro _ _ h1 _ => exact h1
  | other _ h => cases h
def toFsp (F : List AVal → Option AOut) : Fsp := fun _ args k =>
  match F args with
  | some o => k o
  | none => none
theorem toFsp_nat (F : List AVal → Option AOut) (α : Type) (args : List AVal) (k : AOut → Option α) : toFsp F α args k = (toFsp F AOut args some).bind k := by
  unfold toFsp
  cases F args <;> rfl
theorem toFsp_some {F : List AVal → Option AOut} {args : List AVal} {out : AOut} (h : toFsp F AOut args some = some out) : F args = some out := by
  unfold toFsp at h
  cases hF : F args with
  | none => rw [hF] at h; cases h
  | some o => rw [hF] at h; exact h
section
variable {P : Program} {T : Tab} {env : Env}
end
theorem iterL_count {σ α : Type} {f : σ → Option (LRes σ α)} (st : Nat → σ) {R : Option (LRes σ α)} (hR : ∀ y, R ≠ some (.cont y)) (n : Nat) (h : ∀ i, i < n → f (st i) = some (.cont (st (i + 1)))) (hend : f (st n) = R) :
    ∀ (m : Nat), m ≤ n → ∀ N, n - m < N → iterL N f (st m) = R := by
  intro m hm N
  induction N generalizing m with
  | zero => intro h; omega
  | succ N ih =>
    intro hN
    simp only [iterL]
    rcases Nat.lt_or_ge m n with hlt | hge
    · rw [h m hlt]
      exact ih (m + 1) hlt (by omega)
    · have : m = n := by omega
      subst this
      rw [hend]
      cases R with
      | none => rfl
      | some r =>
        cases r with
        | cont y => exact absurd rfl (hR y)
        | _ => rfl
theorem iterL_any {σ α : Type} {f : σ → Option (LRes σ α)} (st : Nat → σ) (p : Nat → Bool) {R E : Option (LRes σ α)} (hR : ∀ y, R ≠ some (.cont y)) (hE : ∀ y, E ≠ some (.cont y)) (n : Nat) (h : ∀ i, i < n → f (st i) = bif p i then R else some (.cont (st (i + 1)))) (hend : f (st n) = E) :
    iterL (n + 1) f (st 0) = bif (List.range n).any p then R else E := by
  have stop : ∀ (Z : Option (LRes σ α)), (∀ y, Z ≠ some (.cont y)) → ∀ N x, f x = Z → iterL (N + 1) f x = Z := fun Z hZ N x hx => by
    simp only [iterL, hx]
  have key : ∀ k, k ≤ n → iterL (k + 1) f (st (n - k)) = bif (List.range' (n - k) k).any p then R else E := fun k => by
    induction k with
    | zero => intro _; exact stop E hE 0 _ hend
    | succ k ih =>
      intro hk
      have e : n - k = n - (k + 1) + 1 := by omega
      have hf := h (n - (k + 1)) (by omega)
      rw [List.range'_succ, List.any_cons]
      cases hp : p (n - (k + 1))
      · rw [hp] at hf
        have := ih (by omega)
        rw [e] at this
        rw [Bool.false_or, ← this]
        conv => lhs; unfold iterL
        rw [hf]
        rfl
      · rw [hp] at hf
        exact stop R hR _ _ hf
  have := key n (Nat.le_refl _)
  rw [Nat.sub_self] at this
  rw [this, List.range_eq_range']
theorem fin_not {σ α : Type} (o : Option α) (y : σ) : (finL o : Option (LRes σ α)) ≠ some (.cont y) := by
  cases o <;> simp [finL]
theorem brk_not {σ α : Type} (i : Nat) (x y : σ) : (some (.brk i x) : Option (LRes σ α)) ≠ some (.cont y) := by simp
theorem any_range (xs : List Int) (q : Int → Bool) : ((List.range xs.length).any fun i => q (xs.getD i 0)) = xs.any q := by
  rw [Bool.eq_iff_iff, List.any_eq_true, List.any_eq_true]
  constructor
  · rintro ⟨i, hi, hq⟩
    have hlt := List.mem_range.1 hi
    rw [List.getD_eq_getElem?_getD, List.getElem?_eq_getElem hlt] at hq
    exact ⟨_, List.getElem_mem hlt, hq⟩
  · rintro ⟨x, hx, hq⟩
    obtain ⟨i, hlt, rfl⟩ := List.mem_iff_getElem.1 hx
    refine ⟨i, List.mem_range.2 hlt, ?_⟩
    rw [List.getD_eq_getElem?_getD, List.getElem?_eq_getElem hlt]
    exact hq
theorem wrap_small {n : Nat} (h : n ≤ maxLen) : IntKind.i64.wrap (n : Int) = n := by
  have h2 : (n : Int) ≤ 9223372036854775807 := Int.ofNat_le.2 h
  simp [IntKind.wrap, IntKind.bits, IntKind.signed]
  omega
end Go.Proofs.Ytcbfmkfmdcabmaa

namespace Go.Proofs.Ytcbfmkfmdcabmaa
open Go.RowKit
structure CvAt (P : Program) (cv : Cv) (v : AVal) : Prop where
  nat : ∀ (α : Type) args h (k : AExit → AVal → List ABlk → Option α), cv α v args h k = (cv _ v args h tripE).bind fun p => k p.1 p.2.1 p.2.2
  ok : ∀ args h x u h1, cv _ v args h tripE = some (x, u, h1) → ∀ (K : Nat → Prop) g w (fv : Value) (cargs : Array Value), St K h g w → Rep h g w v fv → args.length = cargs.size →
    (∀ (j : Nat) c z, args[j]? = some c → cargs[j]? = some z → Rep h g w c z) → CallV P fv cargs w (CvPost K h g w h1 x u)
theorem cv_of {P : Program} {cv : Cv} (h : ∀ v, CvAt P cv v) : CvOk P cv := ⟨fun α v => (h v).nat α, fun v => (h v).ok⟩
theorem CvPost.drop {K h g w h1 x u e w'} (p : CvPost K h g w h1 x u e w') (keep : List Nat) : CvPost K h g w (dropH keep h.length 0 h1) x u e w' := by
  obtain ⟨g', s1, l1, hx⟩ := p
  have al := drop_alike keep h.length h1
  refine ⟨g', al.st s1, drop_le keep l1, ?_⟩
  cases x with
  | normal => obtain ⟨z, h1, h2⟩ := hx; exact ⟨z, h1, al.rep h2⟩
  | pan v => obtain ⟨z, h1, h2⟩ := hx; exact ⟨z, h1, al.rep h2⟩
  | exit i => exact hx
  | ret => exact hx
theorem setTmps_rep {h g w} : ∀ (ps : List Nat) (args : List AVal) (cargs : List Value) (ts : List AVal) (tmps : Array Value), args.length = cargs.length → TRep h g w ts tmps →
    (∀ (j : Nat) c z, args[j]? = some c → cargs[j]? = some z → Rep h g w c z) → TRep h g w (setTmps ts ps args) ((ps.zip cargs).foldl (fun tmps (t, a) => tmps.setIfInBounds t a) tmps)
  | [], args, cargs, ts, tmps, _, ht, _ => by
    have : setTmps ts [] args = ts := by cases args <;> rfl
    rw [this]; exact ht
  | p :: ps, [], cargs, ts, tmps, hl, ht, _ => by
    have : cargs = [] := List.eq_nil_of_length_eq_zero (by simpa using hl.symm)
    subst this
    exact ht
  | p :: ps, a :: args, [], ts, tmps, hl, ht, _ => by simp at hl
  | p :: ps, a :: args, z :: cargs, ts, tmps, hl, ht, hr => by
    simp only [setTmps, List.zip_cons_cons, List.foldl_cons]
    refine setTmps_rep ps args cargs _ _ (by simpa using hl) ?_ fun j c z' h1 h2 => hr (j + 1) c z' (by simpa using h1) (by simpa using h2)
    have := TRep.put (s := ⟨ts, h⟩) (a := { tmps := tmps, defers := [] }) ht (some p) (hr 0 a z rfl rfl)
    exact this
section
variable {P : Program} {T : Tab} {env : Env}
theorem round_nat (hE : EnvOk P env) (N : Nat) (i : Nat) {α : Type} (args : List AVal) (h : List ABlk) (k : AExit → AVal → List ABlk → Option α) :
    evRound real T env N i args h k = (evRound real T env N i args h tripE).bind fun p => k p.1 p.2.1 p.2.2 := by
  unfold evRound
  split
  · rename_i ps asg bo _
    split
    · cases hasRange asg || hasRange bo
      · simp only [cond_false]
        refine bind_nat (e := fun k => ev real T env N asg _ k) (fun k => ev_nat hE N asg _ k) (fun p : AExit × AVal × List ABlk => k p.1 p.2.1 p.2.2) fun x s' => ?_
        cases x with
        | normal =>
          simp only
          split
          · rename_i pend tmps ps' asg' bo' _
            refine bind_nat (e := fun k => ev real T env N bo _ k) (fun k => ev_nat hE N bo _ k) (fun p : AExit × AVal × List ABlk => k p.1 p.2.1 p.2.2) fun x s' => ?_
            split
            · cases x <;> rfl
            · rfl
          · rfl
        | exit i => rfl
        | ret => rfl
        | pan v => rfl
      · rfl
    · rfl
  · rfl
theorem round_ok (hm : P.follows .mixedOrders = true) (hT : TabOk P T) (hE : EnvOk P env) (N : Nat) (i : Nat) {args : List AVal} {h h1 : List ABlk} {x : AExit} {u : AVal} (hk : evRound real T env N i args h tripE = some (x, u, h1))
    {K : Nat → Prop} {g : Gh} {w : World} {fv : Value} {cargs : Array Value} (hs : St K h g w) (hv : Rep h g w (.yld i) fv) (hl : args.length = cargs.size) (hr : ∀ (j : Nat) c z, args[j]? = some c → cargs[j]? = some z → Rep h g w c z) : CallV P fv cargs w (CvPost K h g w h1 x u) := by
  unfold evRound at hk
  split at hk
  case h_2 => cases hk
  rename_i st0 pend ts ps asg bo hh
  have hi := getD_some (by simp) hh
  split at hk
  case isFalse => cases hk
  rename_i hlen
  cases hrg : hasRange asg || hasRange bo
  case true => rw [hrg] at hk; cases hk
  rw [hrg] at hk
  simp only [cond_false] at hk
  simp only [Bool.or_eq_false_iff] at hrg
  obtain ⟨hr1, hr2⟩ := hrg
  obtain ⟨l, arr, fn, Dd, d1, d2, d3, d4⟩ := hs.blk i _ hi
  have hfv : fv = .func (.yield l) #[] #[] := by
    cases hv with
    | yld _ _ _ _ h3 => rw [h3 _ _ _ _ _ _ hi, d1]
  have hy := run_yield (P := P) (args := cargs) d2 (by simp; omega)
  refine .inr (.inl ⟨l, _, _, _, _, hfv, hy, ?_⟩)
  obtain ⟨y, s2, e1, e2⟩ := ev_pair hE hk
  have ht0 : TRep h g w (setTmps ts ps args) ((ps.toArray.zip cargs).foldl (fun tmps (t, a) => tmps.setIfInBounds t a) arr) := by
    have := setTmps_rep (h := h) (g := g) (w := w) ps args cargs.toList ts arr (by simpa using hl) ⟨d3.symm, d4⟩ (fun j c z hc hz => hr j c z hc (by simpa using hz))
    rw [← Array.foldl_toList]
    simpa using this
  refine roundIn_of_wpIn trivial ?_
  refine ev_wp (ro := some l) (K0 := K) hm hT hE N asg _ y s2 _ w g K _ (fun _ h => h) (fun _ => hr1) e1 hs ht0 MRep.nil ⟨fun K1 g1 a1 w1 e kk i1 i2 i3 i4 i5 => ?_⟩
  cases y with
  | exit j => cases e2
  | ret => cases e2
  | pan v => cases e2
  | normal =>
    rw [xr_normal i5]
    simp only at e2
    split at e2
    case h_2 => cases e2
    rename_i pend2 ts2 ps2 asg2 bo2 hh2
    have hi2 := getD_some (by simp) hh2
    have same2 : ts2 = ts ∧ ps2 = ps ∧ asg2 = asg ∧ bo2 = bo ∧ g1.ρ i = g.ρ i := by
      obtain ⟨_, _, q1, q2⟩ := i2.lp i _ _ _ _ _ _ (Here.of hi (by simp)) hi2
      rw [hi] at q1
      cases q1
      exact ⟨rfl, rfl, rfl, rfl, q2⟩
    obtain ⟨rfl, rfl, rfl, rfl, hρ1⟩ := same2
    obtain ⟨l1, r1, f1, f2, f3, f4, f5, f6, f7, f8, l12, s12⟩ := lp_set i1 hi2 .busy pend2
    have hl1 : l1 = l := by rw [hρ1, d1] at f1; cases f1; rfl
    subst hl1
    have hrec : ({ r1 with state := .busy, pending := pend2 } : Loop) = { r1 with state := .busy } := by cases r1; simp_all
    rw [hrec] at l12 s12
    refine ⟨_, run_beginRound f2 f3, ?_⟩
    obtain ⟨y3, s3, e3, e4⟩ := ev_pair hE e2
    refine ev_wp (ro := some l1) (K0 := K) hm hT hE N bo2 _ y3 s3 a1 _ g1 K1 _ kk (fun _ => hr2) e3 s12 (i3.mono l12) (i4.mono l12) ⟨fun K2 g3 a3 w3 e' kk2 j1 j2 j3 j4 j5 => ?_⟩
    split at e4
    case h_2 => cases e4
    rename_i st4 pend4 ts4 ps4 asg4 bo4 hh4
    have hi4 := getD_some (by simp) hh4
    have hρ3 : g3.ρ i = g.ρ i := by
      have hlt : i < s2.heap.length := (List.getElem?_eq_some_iff.1 hi2).1
      obtain ⟨_, _, _, q2⟩ := j2.lp i _ _ _ _ _ _ (Here.of (b := .lp .busy pend2 ts2 ps2 asg2 bo2) (by simp only; rw [List.getElem?_set, if_pos rfl, if_pos hlt]) (by simp)) hi4
      rw [q2, hρ1]
    -- behind the round
    have fin : ∀ (st5 : LoopState) (p5 : Option Code) (b : Bool), st5 = (if p5.isNone then .ready else .done) → b = p5.isNone → tripE .normal (.bool b) (s3.heap.set i (.lp st5 p5 ts4 ps4 asg4 bo4)) = some (x, u, h1) →
        ∃ v w', (Instr.endRound l1 p5).run P w3 = .ok v w' ∧ CvPost K h g w h1 x u (.returned v) w' := fun st5 p5 b hst hb he => by
      obtain ⟨l3, r3, g31, g32, g33, _, _, _, _, _, l34, s34⟩ := lp_set j1 hi4 st5 p5
      have hl3 : l3 = l1 := by rw [hρ3, d1] at g31; cases g31; rfl
      subst hl3
      cases he
      refine ⟨_, _, run_endRound p5 g32, g3, ?_, ?_, .bool p5.isNone, rfl, by rw [hb]; exact .bool _⟩
      · rw [← hst]; exact s34.less fun b hb => kk2 b (kk b hb)
      · rw [← hst]
        exact ((i2.trans (l12.less kk)).trans (j2.less kk)).trans (l34.less fun b hb => kk2 b (kk b hb))
    cases y3 with
    | normal =>
      rw [xr_normal j5]
      exact fin .ready none true rfl rfl e4
    | ret =>
      rw [xr_ret j5]
      exact fin .done (some .ret) false rfl rfl e4
    | exit id =>
      rw [xr_exit j5]
      exact fin .done (some (.exit id)) false rfl rfl e4
    | pan v => cases e4
structure FnOk (P : Program) (f : FuncId) (fn : Func) : Prop where
  get : P.funcs[f]? = some fn
  enter : ∀ args w, (callFunc f args).run P w = .ok (.enter f args) w
structure TwOk (P : Program) (tw : Tower) : Prop where
  fs : ∀ f S, tw.fs f = some S → FspOk P f S
  sp : ∀ f S, tw.sp f = some S → ∀ cv, CvOk P cv → ∀ caps, CvAt P (S cv) (.fn f caps)
  fn : ∀ f fn, tw.fn f = some fn → FnOk P f fn
theorem args_caps {h g w} {args caps : List AVal} {cargs carr : Array Value} (hl : args.length = cargs.size) (hcl : caps.length = carr.size) (hr : ∀ (j : Nat) c z, args[j]? = some c → cargs[j]? = some z → Rep h g w c z) (hcr : ∀ (j : Nat) c z, caps[j]? = some c → carr[j]? = some z → Rep h g w c z) :
    (args ++ caps).length = (cargs ++ carr).size ∧ ∀ (j : Nat) c z, (args ++ caps)[j]? = some c → (cargs ++ carr)[j]? = some z → Rep h g w c z := by
  refine ⟨by simp [hl, hcl], fun j c z hc hz => ?_⟩
  rcases Nat.lt_or_ge j args.length with hj | hj
  · rw [List.getElem?_append_left hj] at hc
    rw [Array.getElem?_append_left (by omega)] at hz
    exact hr j c z hc hz
  · rw [List.getElem?_append_right hj] at hc
    rw [Array.getElem?_append_right (by omega), ← hl] at hz
    exact hcr _ c z hc hz
theorem none_at {cv : Cv} {v : AVal} (h : ∀ (α : Type) args hp (k : AExit → AVal → List ABlk → Option α), cv α v args hp k = none) : CvAt P cv v := ⟨fun α args hp k => by rw [h, h]; rfl, fun args hp x u h1 hk => by rw [h] at hk; cases hk⟩
theorem tower_cv {tw : Tower} (hm : P.follows .mixedOrders = true) (hT : TabOk P T) (ht : TwOk P tw) (N : Nat) : ∀ n, CvOk P (cvN real T tw N n)
  | 0 => cv_of fun v => none_at fun _ _ _ _ => rfl
  | n + 1 => cv_of fun v => by
    have ih := tower_cv hm hT ht N n
    have hE : EnvOk P { fs := tw.fs, pr := tw.pr, cv := cvN real T tw N n } := ⟨ht.fs, ih⟩
    cases v with
    | fn f caps =>
      cases hsp : tw.sp f with
      | some S =>
        have e : ∀ (α : Type) args hp (k : AExit → AVal → List ABlk → Option α), cvN real T tw N (n + 1) α (.fn f caps) args hp k = S (cvN real T tw N n) α (.fn f caps) args hp k := fun α args hp k => by simp only [cvN, hsp]
        have := ht.sp f S hsp _ ih caps
        exact ⟨fun α args hp k => by rw [e, e]; exact this.nat α args hp k, fun args hp x u h1 hk => by rw [e] at hk; exact this.ok args hp x u h1 hk⟩
      | none =>
        cases hfs : (bif Env.inn { fs := tw.fs, pr := tw.pr, cv := fun _ _ _ _ _ => none } f then none else tw.fs f) with
        | some S =>
          have e : ∀ (α : Type) args hp (k : AExit → AVal → List ABlk → Option α), cvN real T tw N (n + 1) α (.fn f caps) args hp k = evPure S false false (args ++ caps) hp k := fun α args hp k => by simp only [cvN, hsp, hfs]
          have hok := ht.fs f S (by cases hin : Env.inn { fs := tw.fs, pr := tw.pr, cv := fun _ _ _ _ _ => none } f <;> rw [hin] at hfs <;> first | exact hfs | cases hfs)
          refine ⟨fun α args hp k => by rw [e, e]; exact evPure_nat hok .., fun args hp x u h1 hk K g w fv cargs hs hv hl hr => ?_⟩
          rw [e] at hk
          cases hv with
          | fn _ _ arr a1 a2 =>
            obtain ⟨b1, b2⟩ := args_caps hl a1 hr a2
            exact .inl ⟨f, arr, rfl, fun w => hok.enter _ w, pure_calls hok hs false false _ _ b1 b2 hk⟩
        | none =>
          cases hfn : tw.fn f with
          | none => exact none_at fun _ _ _ _ => by simp only [cvN, hsp, hfs, hfn]
          | some fn =>
            have e : ∀ (α : Type) args hp (k : AExit → AVal → List ABlk → Option α), cvN real T tw N (n + 1) α (.fn f caps) args hp k = evBody real T { fs := tw.fs, pr := tw.pr, cv := cvN real T tw N n } N fn (args ++ caps) hp fun x v h' => k x v (dropH (keepB h' hp.length v) hp.length 0 h') := fun α args hp k => by simp only [cvN, hsp, hfs, hfn]
            have hok := ht.fn f fn hfn
            refine ⟨fun α args hp k => ?_, fun args hp x u h1 hk K g w fv cargs hs hv hl hr => ?_⟩
            · rw [e, e, body_nat hE N fn (args ++ caps) hp (fun x v h' => k x v (dropH (keepB h' hp.length v) hp.length 0 h')), body_nat hE N fn (args ++ caps) hp (fun x v h' => tripE x v (dropH (keepB h' hp.length v) hp.length 0 h'))]
              cases evBody real T { fs := tw.fs, pr := tw.pr, cv := cvN real T tw N n } N fn (args ++ caps) hp tripE <;> rfl
            · rw [e, body_nat hE] at hk
              cases hq : evBody real T { fs := tw.fs, pr := tw.pr, cv := cvN real T tw N n } N fn (args ++ caps) hp tripE with
              | none => rw [hq] at hk; cases hk
              | some p =>
                obtain ⟨x', u', h'⟩ := p
                rw [hq] at hk
                cases hk
                cases hv with
                | fn _ _ arr a1 a2 =>
                  obtain ⟨b1, b2⟩ := args_caps hl a1 hr a2
                  exact .inl ⟨f, arr, rfl, fun w => hok.enter _ w, (body_calls hm hT hE N hok.get hq hs b1 b2).mono fun e w' hp => hp.drop _⟩
    | yld i =>
      exact ⟨fun α args hp k => round_nat hE N i args hp k, fun args hp x u h1 hk K g w fv cargs hs hv hl hr => round_ok hm hT hE N i hk hs hv hl hr⟩
    | _ => exact none_at fun _ _ _ _ => rfl
theorem tower_ok {tw : Tower} (hm : P.follows .mixedOrders = true) (hT : TabOk P T) (ht : TwOk P tw) (N n : Nat) : EnvOk P (tw.env real T N n) := ⟨ht.fs, tower_cv hm hT ht N n⟩
end
end Go.Proofs.Ytcbfmkfmdcabmaa

namespace Go.Proofs.Ytcbfmkfmdcabmaa
open Go.RowKit
def AVal.v0 : AVal → Value
  | .int k n => .int k n
  | .bool b => .bool b
  | .str s => .string s
  | .fn f [] => .func (.func f) #[] #[]
  | _ => .nilIface
def AVal.v1 : AVal → Value
  | .agg cs => .agg (cs.map AVal.v0).toArray
  | v => v.v0
def AVal.v2 : AVal → Value
  | .tup cs => .tuple (cs.map AVal.v1).toArray
  | .ifc t v => .iface t v.v1
  | v => v.v1
def AVal.p0 : AVal → Bool
  | .int _ _ | .bool _ | .str _ | .fn _ [] => true
  | _ => false
def AVal.p1 : AVal → Bool
  | .agg cs => cs.all AVal.p0
  | v => v.p0
def AVal.p2 : AVal → Bool
  | .tup cs => cs.all AVal.p1
  | .ifc _ v => v.p1
  | v => v.p1
theorem rep_p0 {h g w} {v : AVal} {x : Value} (r : Rep h g w v x) (hp : v.p0 = true) : x = v.v0 := by
  cases r <;> first | (simp [AVal.p0] at hp; done) | rfl | skip
  rename_i f cs arr hl _
  cases cs with
  | nil =>
    have : arr = #[] := Array.eq_empty_of_size_eq_zero hl.symm
    subst this; rfl
  | cons a b => simp [AVal.p0] at hp
theorem rep_p1 {h g w} {v : AVal} {x : Value} (r : Rep h g w v x) (hp : v.p1 = true) : x = v.v1 := by
  cases r with
  | agg cs arr hl hr =>
    simp only [AVal.v1, Value.agg.injEq]
    apply Array.ext
    · simp [hl]
    · intro j h1 h2
      have hj : j < cs.length := by simpa using h2
      have := rep_p0 (hr j cs[j] arr[j] (List.getElem?_eq_getElem hj) (Array.getElem?_eq_getElem h1)) (List.all_eq_true.1 hp _ (List.getElem_mem hj))
      rw [this]; simp
  | any v => simp [AVal.p1, AVal.p0] at hp
  | undef => simp [AVal.p1, AVal.p0] at hp
  | int k n => rfl
  | bool b => rfl
  | str b => rfl
  | fn f cs arr hl hr => exact rep_p0 (.fn f cs arr hl hr) hp
  | _ => simp [AVal.p1, AVal.p0] at hp
theorem rep_v0 {h g w} {v : AVal} (hp : v.p0 = true) : Rep h g w v v.v0 := by
  cases v <;> first | (simp [AVal.p0] at hp; done) | constructor | skip
  rename_i f cs
  cases cs with
  | nil => exact .fn f [] #[] rfl fun j c x hc => by simp at hc
  | cons a b => simp [AVal.p0] at hp
theorem rep_v1 {h g w} {v : AVal} (hp : v.p1 = true) : Rep h g w v v.v1 := by
  unfold AVal.p1 at hp
  split at hp
  · rename_i cs
    refine .agg cs _ (by simp) fun j c x hc hx => ?_
    have hj := (List.getElem?_eq_some_iff.1 hc).1
    simp [hc] at hx
    subst hx
    exact rep_v0 (List.all_eq_true.1 hp c (List.mem_of_getElem? hc))
  · rename_i hn
    have : v.v1 = v.v0 := by unfold AVal.v1; split <;> first | rfl | exact absurd rfl (hn _)
    rw [this]; exact rep_v0 hp
theorem rep_v2 {h g w} {v : AVal} (hp : v.p2 = true) : Rep h g w v v.v2 := by
  unfold AVal.p2 at hp
  split at hp
  · rename_i cs
    refine .tup cs _ (by simp) fun j c x hc hx => ?_
    simp [hc] at hx
    subst hx
    exact rep_v1 (List.all_eq_true.1 hp c (List.mem_of_getElem? hc))
  · rename_i t v
    exact .ifc t v _ (rep_v1 hp)
  · rename_i h1 h2
    have : v.v2 = v.v1 := by unfold AVal.v2; split <;> first | rfl | exact absurd rfl (h1 _) | exact absurd rfl (h2 _ _)
    rw [this]; exact rep_v1 hp
theorem reps_p1 {h g w} {args : List AVal} {cargs : Array Value} (hl : args.length = cargs.size) (hr : ∀ (j : Nat) c x, args[j]? = some c → cargs[j]? = some x → Rep h g w c x) (hp : args.all AVal.p1 = true) : cargs = (args.map AVal.v1).toArray := by
  apply Array.ext
  · simp [hl]
  · intro j h1 h2
    have hj : j < args.length := by simpa using h2
    have := rep_p1 (hr j args[j] cargs[j] (List.getElem?_eq_getElem hj) (Array.getElem?_eq_getElem h1)) (List.all_eq_true.1 hp _ (List.getElem_mem hj))
    rw [this]; simp
def AOut.plain : AOut → Bool
  | .ret v => v.p2
  | .pan v => v.p2
def AOut.ending : AOut → Ending
  | .ret v => .returned v.v2
  | .pan v => .panicked [{ v := v.v2, recovered := false }]
def extS (S : Fsp) (_ : Cv) : Cv := fun _ v args h k =>
  match v with
  | .fn _ [] => S _ args fun o =>
    match o with
    | .ret r => k .normal r h
    | .pan _ => none
  | _ => none
theorem ext_at {P : Program} {f : FuncId} {S : Fsp} (hn : ∀ (α : Type) args (k : AOut → Option α), S α args k = (S AOut args some).bind k)
    (hF : ∀ args out, S AOut args some = some out → ∃ r, out = .ret r ∧ (∃ c, args[0]? = some c ∧ ∀ f cs, c ≠ .fn f cs) ∧ args.all AVal.p1 = true ∧ r.p2 = true ∧ ∀ w, (callFunc f (args.map AVal.v1).toArray).run P w = .ok (.value r.v2) w) (cv : Cv) (_ : CvOk P cv) (caps : List AVal) : CvAt P (extS S cv) (.fn f caps) where
  nat := fun α args h k => by
    unfold extS
    cases caps with
    | nil =>
      simp only
      rw [hn, hn _ _ fun o => match o with | .ret r => tripE .normal r h | .pan _ => none]
      cases S AOut args some with
      | none => rfl
      | some o => cases o <;> rfl
    | cons a b => rfl
  ok := fun args h x u h1 hk K g w fv cargs s hfv hl hr => by
    unfold extS at hk
    cases caps with
    | cons a b => cases hk
    | nil =>
      simp only at hk
      rw [hn] at hk
      cases hq : S AOut args some with
      | none => rw [hq] at hk; cases hk
      | some o =>
        obtain ⟨r, rfl, ⟨c0, e0, e0'⟩, e1, e2, e3⟩ := hF args _ hq
        rw [hq] at hk
        cases hk
        have hc := reps_p1 hl hr e1
        have hfv' := rep_p1 hfv rfl
        subst hfv'
        refine .inr (.inr ⟨f, #[], _, rfl, ?_, ?_, g, s, .refl, _, rfl, rep_v2 e2⟩)
        · rw [hc]
          refine ⟨c0.v1, by simp [e0], fun a b c => ?_⟩
          have hp := List.all_eq_true.1 e1 c0 (List.mem_of_getElem? e0)
          cases c0 <;> simp [AVal.v1, AVal.v0]
          exact absurd rfl (e0' _ _)
        · rw [Array.append_empty, hc]; exact e3 w
end Go.Proofs.Ytcbfmkfmdcabmaa

namespace Go.Proofs.Ytcbfmkfmdcabmaa
open Go.RowKit
def lookF : List (Nat × Func) → Nat → Option Func
  | [], _ => none
  | (u, e) :: r, t => if t = u then some e else lookF r t
def AllFn (P : Program) : List (Nat × Func) → Prop
  | [] => True
  | (u, e) :: r => FnOk P u e ∧ AllFn P r
theorem allCons {P : Program} {u : Nat} {e : Func} {l : List (Nat × Func)} (h : FnOk P u e) (r : AllFn P l) : AllFn P ((u, e) :: l) := ⟨h, r⟩
theorem look_ok {P : Program} : ∀ {l : List (Nat × Func)}, AllFn P l → ∀ f fn, lookF l f = some fn → FnOk P f fn
  | [], _, f, fn, h => by cases h
  | (u, e) :: r, ha, f, fn, h => by
    simp only [lookF] at h
    split at h
    · rename_i e1; cases h; subst e1; exact ha.1
    · exact look_ok ha.2 f fn h
noncomputable def fnsT : List (Nat × Func) := [(7, Try.f7), (8, Try.f8), (9, Try.f9), (10, Try.f10), (12, Try.f12), (14, Try.f14), (16, Try.f16), (17, Try.f17), (21, Try.f21), (22, Try.f22), (23, Try.f23), (24, Try.f24), (25, Try.f25), (29, Try.f29), (30, Try.f30), (31, Try.f31), (34, Try.f34), (35, Try.f35), (36, Try.f36), (37, Try.f37), (39, Try.f39), (40, Try.f40), (42, Try.f42), (43, Try.f43), (44, Try.f44), (45, Try.f45), (46, Try.f46), (47, Try.f47), (48, Try.f48), (49, Try.f49), (50, Try.f50), (51, Try.f51), (52, Try.f52), (53, Try.f53), (55, Try.f55), (56, Try.f56), (57, Try.f57), (58, Try.f58), (59, Try.f59), (60, Try.f60), (61, Try.f61), (62, Try.f62), (63, Try.f63), (64, Try.f64), (65, Try.f65), (66, Try.f66), (67, Try.f67), (68, Try.f68), (69, Try.f69), (70, Try.f70), (71, Try.f71), (72, Try.f72), (73, Try.f73), (74, Try.f74), (75, Try.f75), (76, Try.f76), (77, Try.f77), (78, Try.f78), (79, Try.f79), (80, Try.f80), (81, Try.f81), (82, Try.f82), (83, Try.f83), (84, Try.f84), (85, Try.f85), (86, Try.f86), (87, Try.f87), (88, Try.f88), (89, Try.f89), (90, Try.f90), (91, Try.f91), (92, Try.f92), (93, Try.f93), (95, Try.f95), (96, Try.f96), (97, Try.f97), (98, Try.f98), (99, Try.f99)]
set_option maxRecDepth 100000 in
theorem fnsT_ok : AllFn Try.prog fnsT :=
  allCons ⟨Try.func7, fun _ _ => by kernel_rfl⟩ <|
  allCons ⟨Try.func8, fun _ _ => by kernel_rfl⟩ <|
  allCons ⟨Try.func9, fun _ _ => by kernel_rfl⟩ <|
  allCons ⟨Try.func10, fun _ _ => by kernel_rfl⟩ <|
  allCons ⟨Try.func12, fun _ _ => by kernel_rfl⟩ <|
  allCons ⟨Try.func14, fun _ _ => by kernel_rfl⟩ <|
  allCons ⟨Try.func16, fun _ _ => by kernel_rfl⟩ <|
  allCons ⟨Try.func17, fun _ _ => by kernel_rfl⟩ <|
  allCons ⟨Try.func21, fun _ _ => by kernel_rfl⟩ <|
  allCons ⟨Try.func22, fun _ _ => by kernel_rfl⟩ <|
  allCons ⟨Try.func23, fun _ _ => by kernel_rfl⟩ <|
  allCons ⟨Try.func24, fun _ _ => by kernel_rfl⟩ <|
  allCons ⟨Try.func25, fun _ _ => by kernel_rfl⟩ <|
  allCons ⟨Try.func29, fun _ _ => by kernel_rfl⟩ <|
  allCons ⟨Try.func30, fun _ _ => by kernel_rfl⟩ <|
  allCons ⟨Try.func31, fun _ _ => by kernel_rfl⟩ <|
  allCons ⟨Try.func34, fun _ _ => by kernel_rfl⟩ <|
  allCons ⟨Try.func35, fun _ _ => by kernel_rfl⟩ <|
  allCons ⟨Try.func36, fun _ _ => by kernel_rfl⟩ <|
  allCons ⟨Try.func37, fun _ _ => by kernel_rfl⟩ <|
  allCons ⟨Try.func39, fun _ _ => by kernel_rfl⟩ <|
  allCons ⟨Try.func40, fun _ _ => by kernel_rfl⟩ <|
  allCons ⟨Try.func42, fun _ _ => by kernel_rfl⟩ <|
  allCons ⟨Try.func43, fun _ _ => by kernel_rfl⟩ <|
  allCons ⟨Try.func44, fun _ _ => by kernel_rfl⟩ <|
  allCons ⟨Try.func45, fun _ _ => by kernel_rfl⟩ <|
  allCons ⟨Try.func46, fun _ _ => by kernel_rfl⟩ <|
  allCons ⟨Try.func47, fun _ _ => by kernel_rfl⟩ <|
  allCons ⟨Try.func48, fun _ _ => by kernel_rfl⟩ <|
  allCons ⟨Try.func49, fun _ _ => by kernel_rfl⟩ <|
  allCons ⟨Try.func50, fun _ _ => by kernel_rfl⟩ <|
  allCons ⟨Try.func51, fun _ _ => by kernel_rfl⟩ <|
  allCons ⟨Try.func52, fun _ _ => by kernel_rfl⟩ <|
  allCons ⟨Try.func53, fun _ _ => by kernel_rfl⟩ <|
  allCons ⟨Try.func55, fun _ _ => by kernel_rfl⟩ <|
  allCons ⟨Try.func56, fun _ _ => by kernel_rfl⟩ <|
  allCons ⟨Try.func57, fun _ _ => by kernel_rfl⟩ <|
  allCons ⟨Try.func58, fun _ _ => by kernel_rfl⟩ <|
  allCons ⟨Try.func59, fun _ _ => by kernel_rfl⟩ <|
  allCons ⟨Try.func60, fun _ _ => by kernel_rfl⟩ <|
  allCons ⟨Try.func61, fun _ _ => by kernel_rfl⟩ <|
  allCons ⟨Try.func62, fun _ _ => by kernel_rfl⟩ <|
  allCons ⟨Try.func63, fun _ _ => by kernel_rfl⟩ <|
  allCons ⟨Try.func64, fun _ _ => by kernel_rfl⟩ <|
  allCons ⟨Try.func65, fun _ _ => by kernel_rfl⟩ <|
  allCons ⟨Try.func66, fun _ _ => by kernel_rfl⟩ <|
  allCons ⟨Try.func67, fun _ _ => by kernel_rfl⟩ <|
  allCons ⟨Try.func68, fun _ _ => by kernel_rfl⟩ <|
  allCons ⟨Try.func69, fun _ _ => by kernel_rfl⟩ <|
  allCons ⟨Try.func70, fun _ _ => by kernel_rfl⟩ <|
  allCons ⟨Try.func71, fun _ _ => by kernel_rfl⟩ <|
  allCons ⟨Try.func72, fun _ _ => by kernel_rfl⟩ <|
  allCons ⟨Try.func73, fun _ _ => by kernel_rfl⟩ <|
  allCons ⟨Try.func74, fun _ _ => by kernel_rfl⟩ <|
  allCons ⟨Try.func75, fun _ _ => by kernel_rfl⟩ <|
  allCons ⟨Try.func76, fun _ _ => by kernel_rfl⟩ <|
  allCons ⟨Try.func77, fun _ _ => by kernel_rfl⟩ <|
  allCons ⟨Try.func78, fun _ _ => by kernel_rfl⟩ <|
  allCons ⟨Try.func79, fun _ _ => by kernel_rfl⟩ <|
  allCons ⟨Try.func80, fun _ _ => by kernel_rfl⟩ <|
  allCons ⟨Try.func81, fun _ _ => by kernel_rfl⟩ <|
  allCons ⟨Try.func82, fun _ _ => by kernel_rfl⟩ <|
  allCons ⟨Try.func83, fun _ _ => by kernel_rfl⟩ <|
  allCons ⟨Try.func84, fun _ _ => by kernel_rfl⟩ <|
  allCons ⟨Try.func85, fun _ _ => by kernel_rfl⟩ <|
  allCons ⟨Try.func86, fun _ _ => by kernel_rfl⟩ <|
  allCons ⟨Try.func87, fun _ _ => by kernel_rfl⟩ <|
  allCons ⟨Try.func88, fun _ _ => by kernel_rfl⟩ <|
  allCons ⟨Try.func89, fun _ _ => by kernel_rfl⟩ <|
  allCons ⟨Try.func90, fun _ _ => by kernel_rfl⟩ <|
  allCons ⟨Try.func91, fun _ _ => by kernel_rfl⟩ <|
  allCons ⟨Try.func92, fun _ _ => by kernel_rfl⟩ <|
  allCons ⟨Try.func93, fun _ _ => by kernel_rfl⟩ <|
  allCons ⟨Try.func95, fun _ _ => by kernel_rfl⟩ <|
  allCons ⟨Try.func96, fun _ _ => by kernel_rfl⟩ <|
  allCons ⟨Try.func97, fun _ _ => by kernel_rfl⟩ <|
  allCons ⟨Try.func98, fun _ _ => by kernel_rfl⟩ <|
  allCons ⟨Try.func99, fun _ _ => by kernel_rfl⟩ <|
  trivial
end Go.Proofs.Ytcbfmkfmdcabmaa

namespace Go.Proofs.Ytcbfmkfmdcabmaa
def okB (a : Int) : Bool := decide (-70368744177664 ≤ a) && decide (a ≤ 70368744177664)
def wayB (how : Int) : Bool := decide (0 ≤ how) && decide (how ≤ 3)
def rateB (n : Int) : Bool := decide (-2147483648 ≤ n) && decide (n ≤ 2147483648)
def ab (x : Int) : Int := if x < 0 then -x else x
def ngB (x : Int) : Bool := decide (x < 0)
def sg (neg : Bool) (n : Int) : Int := bif neg then -n else n
def up1 (how : Int) (neg : Bool) (r d : Int) : Bool := decide (0 < r) && (if how = 1 then neg else if how = 2 then !neg else if how = 3 then decide (d ≤ r + r) else false)
def rnd (how : Int) (neg : Bool) (n d : Int) : Int := n / d + (bif up1 how neg (n % d) d then 1 else 0)
def fxB (n : Int) : Bool := decide (n ≤ 70368744177664)
def fxV (neg : Bool) (n : Int) : Int := bif fxB n then sg neg n else 0
def fxE (n : Int) : Int := bif fxB n then 0 else 4
theorem ab_nn (x : Int) : 0 ≤ ab x := by unfold ab; split <;> omega
theorem ok_iff {a : Int} : okB a = true ↔ -70368744177664 ≤ a ∧ a ≤ 70368744177664 := by simp [okB]
theorem ok_ab {a : Int} (h : okB a = true) : ab a ≤ 70368744177664 := by rw [ok_iff] at h; unfold ab; split <;> omega
theorem way_cases {how : Int} (h : wayB how = true) : how = 0 ∨ how = 1 ∨ how = 2 ∨ how = 3 := by simp [wayB] at h; omega
theorem rate_iff {a : Int} : rateB a = true ↔ -2147483648 ≤ a ∧ a ≤ 2147483648 := by simp [rateB]
def xorB (a b : Bool) : Bool := a != b
def scG (a n d : Int) : Bool := xorB (ngB a) (xorB (ngB n) (ngB d))
def bs (p : Nat → Bool) : Nat → Nat → Nat
  | 0, n => n
  | k + 1, n => bif p (n + 2 ^ k) then bs p k (n + 2 ^ k) else bs p k n
def shrC (x s : Int) : Int := ((bs (fun m => decide ((m : Int) * m * s ≤ 4294967296 * (x * x))) 17 0 : Nat) : Int)
theorem shr_ex : ∃ f : Int → Int → Int, f = shrC := ⟨_, rfl⟩
noncomputable def shr : Int → Int → Int := Classical.choose shr_ex
def cmp3 (a b : Int) : Int := if a < b then -1 else if b < a then 1 else 0
end Go.Proofs.Ytcbfmkfmdcabmaa

namespace Go.Proofs.Ytcbfmkfmdcabmaa
end Go.Proofs.Ytcbfmkfmdcabmaa
