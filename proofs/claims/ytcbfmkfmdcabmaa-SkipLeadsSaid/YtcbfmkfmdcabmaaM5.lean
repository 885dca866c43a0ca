/- Parts of the proof, in build order. -/
import Derived.Test.YtcbfmkfmdcabmaaM4
import Derived.RangeFuncRecord
namespace Go.Proofs.Ytcbfmkfmdcabmaa
open Go.RowKit
theorem cellsOf_none : ∀ (bx : List (Nat × Nat)) (vs : List AVal) (i : Nat), cellsOf bx vs i = none → ∀ n, (i, n) ∉ bx
  | [], _, _, _, n => by simp
  | (j, m) :: r, vs, i, h, n => by
    simp only [cellsOf] at h
    split at h
    · cases h
    · rename_i hne
      intro hm
      rcases List.mem_cons.1 hm with e | e
      · cases e; exact hne rfl
      · exact cellsOf_none r _ i h n e
theorem cellsOf_some (f : Nat → List AVal) : ∀ (bx : List (Nat × Nat)) (vs : List AVal) (i : Nat) (cs : List AVal), cellsOf bx vs i = some cs → (∀ b ∈ bx, (f b.1).length = b.2) → vs.length = (bx.flatMap fun b => f b.1).length →
    (∃ n, (i, n) ∈ bx) ∧ cs.length = (f i).length ∧ ∀ (j : Nat) c', cs[j]? = some c' → ∃ (m : Nat) (c : AVal), (bx.flatMap fun b => f b.1)[m]? = some c ∧ (f i)[j]? = some c ∧ vs[m]? = some c'
  | [], _, _, _, h, _, _ => by simp [cellsOf] at h
  | (k, n) :: r, vs, i, cs, h, hl, hlen => by
    have hk : (f k).length = n := hl (k, n) (by simp)
    simp only [List.flatMap_cons, List.length_append] at hlen
    simp only [cellsOf] at h
    split at h
    · rename_i e
      subst e
      cases h
      refine ⟨⟨n, by simp⟩, by simp; omega, fun j c' hj => ?_⟩
      rw [List.getElem?_take] at hj
      split at hj
      · rename_i hjn
        have hjf : j < (f i).length := by omega
        exact ⟨j, _, by simp only [List.flatMap_cons]; rw [List.getElem?_append_left hjf]; exact List.getElem?_eq_getElem hjf, List.getElem?_eq_getElem hjf, hj⟩
      · cases hj
    · obtain ⟨⟨n', h1⟩, h2, h3⟩ := cellsOf_some f r (vs.drop n) i cs h (fun b hb => hl b (List.mem_cons_of_mem _ hb)) (by rw [List.length_drop]; omega)
      refine ⟨⟨n', List.mem_cons_of_mem _ h1⟩, h2, fun j c' hj => ?_⟩
      obtain ⟨m, c, a1, a2, a3⟩ := h3 j c' hj
      refine ⟨n + m, c, ?_, a2, by rw [List.getElem?_drop] at a3; exact a3⟩
      simp only [List.flatMap_cons]
      rw [List.getElem?_append_right (by omega), hk, Nat.add_sub_cancel_left]
      exact a1
theorem boxAt_get {h : List ABlk} {i : Nat} (hb : boxB h i = true) : h[i]? = some (.box true (boxAt h i)) := by
  unfold boxB at hb
  split at hb
  · rename_i cs hh
    unfold boxAt
    rw [hh]
    exact getD_some (by simp) hh
  · cases hb
theorem rowB_get {h : List ABlk} {i : Nat} (hb : rowB h i = true) : ∃ t e, ∃ xs : List e.ty, h[i]? = some (.row true t e xs) := by
  unfold rowB at hb
  split at hb
  · rename_i t e xs hh
    exact ⟨t, e, xs, getD_some (by simp) hh⟩
  · cases hb
theorem blk_lock {h g w i} {b : ABlk} : BlkOk h g w i (lockB b) = BlkOk h g w i b := by cases b <;> rfl
structure AtEnd (K : Nat → Prop) (L : LoopAt) (s s' : AS) (g' : Gh) (w' : World) (a' : Act) : Prop where
  st : St K s'.heap g' w'
  tr : TRep s'.heap g' w' s'.tmps a'.tmps
  len : s'.tmps.length = s.tmps.length
  slots : ∀ t, t ∉ L.dsts → t ∉ L.slots → s'.tmps[t]? = s.tmps[t]?
  hl : s.heap.length ≤ s'.heap.length
  keep : ∀ (i : Nat) b, s.heap[i]? = some b → b ≠ .dead → i ∉ L.owns → (∀ n, (i, n) ∉ L.boxes) → (∀ p ∈ L.rws, p.1 ≠ i) →
    s'.heap[i]? = some (lockB b) ∨ (s'.heap[i]? = some b ∧ i ∉ ownsIn L.kinds (L.vals s') ∧ i ∉ fzIn L.kinds (L.vals s'))
  lock0 : ∀ (i : Nat) b, s.heap[i]? = some b → lockB b = b → b ≠ .dead → i ∉ L.owns ∧ (∀ n, (i, n) ∉ L.boxes) ∧ ∀ p ∈ L.rws, p.1 ≠ i
  bds : ∀ (t : Nat) c, s.tmps[t]? = some c → Bd s.heap.length c
  bdh : ∀ (i : Nat) wr cs, s.heap[i]? = some (.box wr cs) → ∀ (j : Nat) c, cs[j]? = some c → Bd s.heap.length c
  bdl : ∀ (i : Nat) st pend ts ps aw bo, s.heap[i]? = some (.lp st pend ts ps aw bo) → ∀ (j : Nat) c, ts[j]? = some c → Bd s.heap.length c
def LoopAt.gh (L : LoopAt) (s s' : AS) (g' : Gh) : Gh :=
  ⟨fun i => if i < s.heap.length then g'.ρ i else (srcOf g'.ρ L.kinds (L.vals s')).getD (i - s.heap.length) Go.undef, (g'.plus (fzIn L.kinds (L.vals s'))).M⟩
end Go.Proofs.Ytcbfmkfmdcabmaa

namespace Go.Proofs.Ytcbfmkfmdcabmaa
open Go.RowKit
def ownsO : List Kd → List AVal → List (Option Nat)
  | .own _ _ :: ks, .own i :: vs => some i :: ownsO ks vs
  | .own _ _ :: ks, _ :: vs => none :: ownsO ks vs
  | .v _ :: ks, _ :: vs => ownsO ks vs
  | _, _ => []
def srcV (ρ : Nat → Value) : Option Nat → Value
  | some i => ρ i
  | none => .slice none 0 0
theorem ownsO_cons (t : TypeId) (e : Sh) (ks : List Kd) (v : AVal) (vs : List AVal) :
    (∃ i, v = .own i ∧ ownsO (.own t e :: ks) (v :: vs) = some i :: ownsO ks vs ∧ ownIn (.own t e) v = [i]) ∨ ((∀ i, v ≠ .own i) ∧ ownsO (.own t e :: ks) (v :: vs) = none :: ownsO ks vs ∧ ownIn (.own t e) v = []) := by
  cases v <;> first
    | exact .inl ⟨_, rfl, rfl, rfl⟩
    | exact .inr ⟨fun i e => (by cases e), rfl, rfl⟩
theorem srcOf_eq (ρ : Nat → Value) : ∀ (ks : List Kd) (vs : List AVal), srcOf ρ ks vs = (ownsO ks vs).map (srcV ρ)
  | [], _ => by simp [srcOf, ownsO]
  | .v s :: ks, [] => by simp [srcOf, ownsO]
  | .own t e :: ks, [] => by simp [srcOf, ownsO]
  | .v s :: ks, v :: vs => by simp only [srcOf, ownsO]; exact srcOf_eq ρ ks vs
  | .own t e :: ks, v :: vs => by
    have ih := srcOf_eq ρ ks vs
    cases v <;> simp [srcOf, ownsO, srcV, ih]
theorem ownsIn_eq : ∀ (ks : List Kd) (vs : List AVal), ownsIn ks vs = (ownsO ks vs).filterMap id
  | [], _ => by simp [ownsIn, ownsO]
  | .v s :: ks, [] => by simp [ownsIn, ownsO]
  | .own t e :: ks, [] => by simp [ownsIn, ownsO]
  | .v s :: ks, v :: vs => by simp only [ownsIn, ownsO, ownIn, List.nil_append]; exact ownsIn_eq ks vs
  | .own t e :: ks, v :: vs => by
    have ih := ownsIn_eq ks vs
    rcases ownsO_cons t e ks v vs with ⟨i, _, h2, h3⟩ | ⟨_, h2, h3⟩
    · simp [ownsIn, h2, h3, ih]
    · simp [ownsIn, h2, h3, ih]
theorem once : ∀ (l : List (Option Nat)), (l.filterMap id).Nodup → ∀ (p q i : Nat), l[p]? = some (some i) → l[q]? = some (some i) → p = q
  | [], _, p, q, i, h, _ => by simp at h
  | o :: l, hn, p, q, i, hp, hq => by
    have hl : (l.filterMap id).Nodup := by
      cases o with
      | none => simpa using hn
      | some j => simp only [List.filterMap_cons, id] at hn; exact (List.nodup_cons.1 hn).2
    have hno : ∀ (r : Nat), o = some i → l[r]? = some (some i) → False := fun r e hr => by
      subst e
      simp only [List.filterMap_cons, id] at hn
      exact (List.nodup_cons.1 hn).1 (List.mem_filterMap.2 ⟨some i, List.mem_of_getElem? hr, rfl⟩)
    cases p with
    | zero =>
      cases q with
      | zero => rfl
      | succ q =>
        simp only [List.getElem?_cons_zero, Option.some.injEq, List.getElem?_cons_succ] at hp hq
        exact (hno q hp hq).elim
    | succ p =>
      cases q with
      | zero =>
        simp only [List.getElem?_cons_zero, Option.some.injEq, List.getElem?_cons_succ] at hp hq
        exact (hno p hq hp).elim
      | succ q =>
        simp only [List.getElem?_cons_succ] at hp hq
        rw [once l hl p q i hp hq]
theorem exO_spec {h : List ABlk} {t : TypeId} {e : Sh} {v : AVal} {x : List e.ty} (hk : exO h t e v = some x) : (∃ i, v = .own i ∧ h[i]? = some (.row true t e x)) ∨ (v = .nils ∧ x = [] ∧ 0 < e.size) := by
  unfold exO at hk
  split at hk
  · rename_i i
    cases hg : h.getD i .dead with
    | dead => rw [hg] at hk; cases hk
    | box wr cs => rw [hg] at hk; cases hk
    | lp => rw [hg] at hk; cases hk
    | free => rw [hg] at hk; cases hk
    | row wr t2 d xs =>
      rw [hg] at hk
      cases wr with
      | false => cases hk
      | true =>
        simp only at hk
        split at hk
        · rename_i hd
          subst hd
          split at hk
          · rename_i ht
            subst ht
            cases hk
            exact .inl ⟨i, rfl, getD_some (by simp) hg⟩
          · cases hk
        · cases hk
  · split at hk
    · rename_i h0
      cases hk
      exact .inr ⟨rfl, rfl, h0⟩
    · cases hk
  · cases hk
theorem rows_at (h : List ABlk) : ∀ (ks : List Kd) (vs : List AVal) (y : Kds.ty ks), exKs h ks vs = some y →
    (rowsOf ks y).length = (ownsO ks vs).length ∧ ∀ (q : Nat) o, (ownsO ks vs)[q]? = some o → ∃ t e, ∃ xs : List e.ty, (rowsOf ks y)[q]? = some (.row true t e xs) ∧ ((∃ i, o = some i ∧ h[i]? = some (.row true t e xs)) ∨ (o = none ∧ xs = [] ∧ 0 < e.size))
  | [], [], y, _ => ⟨rfl, fun q o hq => by simp [ownsO] at hq⟩
  | [], _ :: _, y, hx => by simp [exKs] at hx
  | k :: ks, [], y, hx => by cases k <;> simp [exKs] at hx
  | k :: ks, v :: vs, y, hx => by
    simp only [exKs] at hx
    split at hx
    · cases hx
    · rename_i x hk
      split at hx
      · cases hx
      · rename_i y' hy'
        cases hx
        obtain ⟨i1, i2⟩ := rows_at h ks vs y' hy'
        cases k with
        | v s => exact ⟨by simp only [rowsOf, ownsO]; exact i1, fun q o hq => by simp only [rowsOf]; exact i2 q o (by simpa [ownsO] using hq)⟩
        | own t e =>
          have hs := exO_spec hk
          rcases ownsO_cons t e ks v vs with ⟨i, h1, h2, _⟩ | ⟨h1, h2, _⟩
          all_goals
            refine ⟨by rw [h2]; simp [rowsOf, i1], fun q o hq => ?_⟩
            rw [h2] at hq
            cases q with
            | zero =>
              simp only [List.getElem?_cons_zero, Option.some.injEq] at hq
              subst hq
              refine ⟨t, e, x, by simp [rowsOf], ?_⟩
              rcases hs with ⟨j, a1, a2⟩ | ⟨a1, a2, a3⟩
              · first
                | (rw [h1] at a1; cases a1; exact .inl ⟨_, rfl, a2⟩)
                | exact absurd a1 (h1 j)
              · first
                | (rw [h1] at a1; cases a1)
                | exact .inr ⟨rfl, a2, a3⟩
            | succ q =>
              obtain ⟨t', e', xs, a1, a2⟩ := i2 q o (by simpa using hq)
              exact ⟨t', e', xs, by simpa [rowsOf] using a1, a2⟩
theorem peek1_agg {h : List ABlk} {c : AVal} {us : List AVal} (hp : peek1 h c = some (.agg us)) : ∃ cs, c = .agg cs := by
  cases c with
  | agg cs => exact ⟨cs, rfl⟩
  | own i =>
    simp only [peek1, peek0] at hp
    split at hp
    · split at hp <;> cases hp
    · cases hp
  | fn f cs =>
    simp only [peek1] at hp
    split at hp <;> cases hp
  | _ => simp [peek1, peek0] at hp
theorem car_scalar {h n ks y vs ρ c c'} (hc : CarK h n ks y vs ρ c c') (hs : c.scalar = true) : c'.scalar = true := by
  rcases hc with ⟨s, u, x, h1, h2, h3, rfl, _⟩ | ⟨q, t, e, xs, rfl, _⟩
  · rcases val_cells s x with ⟨fs, e, hv⟩ | ⟨_, hp, _⟩ | ⟨_, hv⟩
    case inr.inr =>
      rw [hv] at h3
      cases u with
      | agg us => obtain ⟨cs, rfl⟩ := peek1_agg h1; cases hs
      | _ => exact absurd h3.1 (by simp [AVal.cells])
    · subst e
      cases u with
      | agg us => obtain ⟨cs, rfl⟩ := peek1_agg h1; cases hs
      | _ => simp [okAgg] at h2
    · cases hh : s.val x <;> rw [hh] at hp <;> simp_all [AVal.pure0, AVal.scalar]
  · rfl
theorem rowIn_some {X : Type} {j : Nat} {B : ABlk} : ∀ (r : List (Nat × TypeId × Sh)) (x : rwsTy r X), rowIn r x j = some B → ∃ p ∈ r, p.1 = j
  | [], _, h => by simp [rowIn] at h
  | p :: r, x, h => by
    simp only [rowIn] at h
    split at h
    · rename_i e; exact ⟨p, by simp, e.symm⟩
    · obtain ⟨q, h1, h2⟩ := rowIn_some r x.2 h
      exact ⟨q, List.mem_cons_of_mem _ h1, h2⟩
theorem rowIn_none {X : Type} {j : Nat} : ∀ (r : List (Nat × TypeId × Sh)) (x : rwsTy r X), (∀ p ∈ r, p.1 ≠ j) → rowIn r x j = none
  | [], _, _ => rfl
  | p :: r, x, h => by
    simp only [rowIn]
    rw [if_neg (fun e => h p (by simp) e.symm)]
    exact rowIn_none r x.2 fun q hq => h q (List.mem_cons_of_mem _ hq)
theorem rowIn_not {X : Type} {j : Nat} : ∀ (r : List (Nat × TypeId × Sh)) (x : rwsTy r X), rowIn r x j = none → ∀ p ∈ r, p.1 ≠ j
  | [], _, _, p, hp => by simp at hp
  | q :: r, x, h, p, hp => by
    simp only [rowIn] at h
    split at h
    · cases h
    · rename_i hne
      rcases List.mem_cons.1 hp with e | e
      · subst e; exact fun e' => hne e'.symm
      · exact rowIn_not r x.2 h p e
theorem exRow_spec {h : List ABlk} {p : Nat × TypeId × Sh} {xs : List p.2.2.ty} (hx : exRow h p = some xs) : h[p.1]? = some (.row true p.2.1 p.2.2 xs) := by
  obtain ⟨i, t, e⟩ := p
  unfold exRow at hx
  cases hg : h.getD i .dead with
  | dead => simp only [hg] at hx; cases hx
  | box wr cs => simp only [hg] at hx; cases hx
  | lp => simp only [hg] at hx; cases hx
  | free => simp only [hg] at hx; cases hx
  | row wr t2 d ys =>
    simp only [hg] at hx
    cases wr with
    | false => cases hx
    | true =>
      simp only at hx
      split at hx
      · rename_i hd
        replace hd : d = e := hd
        subst hd
        split at hx
        · rename_i ht
          replace ht : t2 = t := ht
          subst ht
          cases hx
          exact getD_some (by simp) hg
        · cases hx
      · cases hx
theorem exRws_spec {X : Type} {h : List ABlk} : ∀ (r : List (Nat × TypeId × Sh)) (o : Option X) (z : rwsTy r X), exRws h r o = some z → o = some (rwsBase r z) ∧ ∀ j B, rowIn r z j = some B → h[j]? = some B ∧ ∃ t e, ∃ xs : List e.ty, B = .row true t e xs
  | [], o, z, hx => ⟨hx, fun j B hB => by simp [rowIn] at hB⟩
  | p :: r, o, z, hx => by
    simp only [exRws] at hx
    split at hx
    · cases hx
    · rename_i xs hxs
      split at hx
      · cases hx
      · rename_i y hy
        cases hx
        obtain ⟨h1, h2⟩ := exRws_spec r o y hy
        refine ⟨h1, fun j B hB => ?_⟩
        simp only [rowIn] at hB
        split at hB
        · rename_i e
          subst e
          cases hB
          exact ⟨exRow_spec hxs, _, _, _, rfl⟩
        · exact h2 j B hB
theorem state_at (L : LoopAt) (s : AS) (lk : Bool) (z : L.ty) (i : Nat) (B : ABlk) (hB : (L.state s lk z).heap[i]? = some B) :
    (i < s.heap.length ∧ B = .dead) ∨
    (i < s.heap.length ∧ ∃ cs, cellsOf L.boxes ((valsOf L.kinds (rwsBase L.rws z) s.heap.length).drop L.slots.length) i = some cs ∧ B = .box true cs) ∨
    (i < s.heap.length ∧ i ∉ L.owns ∧ (∀ n, (i, n) ∉ L.boxes) ∧ (∀ p ∈ L.rws, p.1 ≠ i) ∧ ∃ b, s.heap[i]? = some b ∧ (B = b ∨ B = lockB b)) ∨
    (s.heap.length ≤ i ∧ (rowsOf L.kinds (rwsBase L.rws z))[i - s.heap.length]? = some B) ∨
    (i < s.heap.length ∧ rowIn L.rws z i = some B) := by
  simp only [LoopAt.state] at hB
  rcases Nat.lt_or_ge i s.heap.length with hi | hi
  · rw [List.getElem?_append_left (by rw [mapAt_length]; exact hi), mapAt_get, Nat.zero_add] at hB
    rw [List.getElem?_eq_getElem hi] at hB
    simp only [Option.map_some, Option.some.injEq] at hB
    split at hB
    · exact .inl ⟨hi, hB.symm⟩
    · rename_i ho
      split at hB
      · rename_i cs hcs
        exact .inr (.inl ⟨hi, cs, hcs, hB.symm⟩)
      · rename_i hn
        split at hB
        · rename_i B' hr
          subst hB
          exact .inr (.inr (.inr (.inr ⟨hi, hr⟩)))
        · rename_i hr
          refine .inr (.inr (.inl ⟨hi, by simpa using ho, cellsOf_none _ _ _ hn, rowIn_not _ _ hr, _, List.getElem?_eq_getElem hi, ?_⟩))
          cases lk
          · exact .inl hB.symm
          · exact .inr hB.symm
  · rw [List.getElem?_append_right (by rw [mapAt_length]; exact hi), mapAt_length] at hB
    exact .inr (.inr (.inr (.inl ⟨hi, hB⟩)))
theorem state_len (L : LoopAt) (s : AS) (lk : Bool) (z : L.ty) : (L.state s lk z).heap.length = s.heap.length + (rowsOf L.kinds (rwsBase L.rws z)).length := by
  simp [LoopAt.state, mapAt_length]
theorem lockB_row {b : ABlk} {t e xs} : lockB b ≠ .row true t e xs := by
  cases b <;> simp [lockB]
theorem lockB_box {b : ABlk} {wr cs} (h : lockB b = .box wr cs) : ∃ wr', b = .box wr' cs := by
  cases b with
  | dead => cases h
  | box wr' cs' => cases h; exact ⟨_, rfl⟩
  | row => cases h
  | lp => cases h
  | free => cases h
theorem lockB_row' {b : ABlk} {wr t e xs} (h : lockB b = .row wr t e xs) : ∃ wr', b = .row wr' t e xs := by
  cases b with
  | dead => cases h
  | box wr' cs' => cases h
  | row => cases h; exact ⟨_, rfl⟩
  | lp => cases h
  | free => cases h
theorem lockB_lp {b : ABlk} {st pend ts ps aw bo} (h : lockB b = .lp st pend ts ps aw bo) : b = .lp st pend ts ps aw bo := by
  cases b with
  | dead => cases h
  | box wr' cs' => cases h
  | row => cases h
  | lp => exact h
  | free => cases h
theorem lockB_free {b : ABlk} (h : lockB b = .free) : b = .free := by
  cases b with
  | free => rfl
  | _ => cases h
end Go.Proofs.Ytcbfmkfmdcabmaa

namespace Go.Proofs.Ytcbfmkfmdcabmaa
open Go.RowKit
theorem cellsOf_not {i : Nat} : ∀ (bx : List (Nat × Nat)) (vs : List AVal), (∀ n, (i, n) ∉ bx) → cellsOf bx vs i = none
  | [], _, _ => rfl
  | (k, n) :: r, vs, hp => by
    simp only [cellsOf]
    rw [if_neg (fun e => by subst e; exact hp n (by simp))]
    exact cellsOf_not r _ fun n' hm => hp n' (List.mem_cons_of_mem _ hm)
theorem state_kept (L : LoopAt) (s : AS) (lk : Bool) (z : L.ty) (i : Nat) (b : ABlk) (h : s.heap[i]? = some b) (h1 : i ∉ L.owns) (h2 : ∀ n, (i, n) ∉ L.boxes) (h3 : ∀ p ∈ L.rws, p.1 ≠ i) : (L.state s lk z).heap[i]? = some (bif lk then lockB b else b) := by
  have hi : i < s.heap.length := (List.getElem?_eq_some_iff.1 h).1
  simp only [LoopAt.state]
  rw [List.getElem?_append_left (by rw [mapAt_length]; exact hi), mapAt_get, Nat.zero_add, h]
  simp only [Option.map_some]
  rw [if_neg (by simpa using h1), cellsOf_not _ _ h2, rowIn_none _ _ h3]
section
variable {K : Nat → Prop} {L : LoopAt} {s s' : AS} {g' : Gh} {w' : World} {a' : Act} {z : L.ty}
theorem ex_all (hx : L.ex s' = some z) : (ownsIn L.kinds (L.vals s')).Nodup ∧ (∀ j ∈ fzIn L.kinds (L.vals s'), rowB s'.heap j = true ∧ j ∉ ownsIn L.kinds (L.vals s')) ∧ (∀ b ∈ L.boxes, boxB s'.heap b.1 = true ∧ (boxAt s'.heap b.1).length = b.2) ∧ exKs s'.heap L.kinds (L.vals s') = some (rwsBase L.rws z) ∧
    (∀ p ∈ L.rws, p.1 ∉ ownsIn L.kinds (L.vals s') ∧ p.1 ∉ fzIn L.kinds (L.vals s')) ∧ lpsB s'.heap L.lps = true ∧ (∀ j B, rowIn L.rws z j = some B → s'.heap[j]? = some B ∧ ∃ t e, ∃ xs : List e.ty, B = .row true t e xs) := by
  unfold LoopAt.ex at hx
  split at hx
  · rename_i hc
    obtain ⟨⟨_, h4, h5⟩, h1, h2, h3⟩ := hc
    obtain ⟨e1, e2⟩ := exRws_spec _ _ _ hx
    refine ⟨h1, fun j hj => ?_, fun b hb => ?_, e1, fun p hp => ?_, h5, e2⟩
    · have := List.all_eq_true.1 h2 j hj
      simpa using this
    · have := List.all_eq_true.1 h3 b hb
      simpa using this
    · have := List.all_eq_true.1 h4 p hp
      simpa using this
  · cases hx
theorem ex_parts (hx : L.ex s' = some z) : (ownsIn L.kinds (L.vals s')).Nodup ∧ (∀ j ∈ fzIn L.kinds (L.vals s'), rowB s'.heap j = true ∧ j ∉ ownsIn L.kinds (L.vals s')) ∧ (∀ b ∈ L.boxes, boxB s'.heap b.1 = true ∧ (boxAt s'.heap b.1).length = b.2) ∧ exKs s'.heap L.kinds (L.vals s') = some (rwsBase L.rws z) := by
  obtain ⟨h1, h2, h3, h4, _⟩ := ex_all hx
  exact ⟨h1, h2, h3, h4⟩
theorem ex_row (hx : L.ex s' = some z) {i : Nat} {B : ABlk} (h : rowIn L.rws z i = some B) : s'.heap[i]? = some B ∧ (∃ t e, ∃ xs : List e.ty, B = .row true t e xs) ∧ i ∉ ownsIn L.kinds (L.vals s') ∧ i ∉ fzIn L.kinds (L.vals s') := by
  obtain ⟨_, _, _, _, h5, _, h7⟩ := ex_all hx
  obtain ⟨p, hp, e⟩ := rowIn_some _ _ h
  subst e
  exact ⟨(h7 _ _ h).1, (h7 _ _ h).2, (h5 p hp).1, (h5 p hp).2⟩
theorem AtEnd.moves (A : AtEnd K L s s' g' w' a') (hx : L.ex s' = some z) (lk : Bool) : Moves s.heap.length s'.heap g' (L.state s lk z).heap (L.gh s s' g') where
  len := by rw [state_len]; omega
  here := fun i hi ⟨b, hb, hn⟩ => by
    have hlt : i < (L.state s lk z).heap.length := by rw [state_len]; omega
    refine ⟨_, List.getElem?_eq_getElem hlt, fun e => ?_⟩
    have hB := List.getElem?_eq_getElem hlt
    rw [e] at hB
    rcases state_at L s lk z i _ hB with ⟨_, e⟩ | ⟨_, cs', hc, e⟩ | ⟨_, h1, h2, h2r, b', hb', e⟩ | ⟨h1, _⟩ | ⟨_, hr⟩
    · cases e
    · cases e
    · have hf : b' = .free := by
        rcases e with e | e
        · exact e.symm
        · exact lockB_free e.symm
      subst hf
      rcases A.keep i _ hb' (by simp) h1 h2 h2r with hk | ⟨hk, _⟩
      · rw [hb] at hk; cases hk; exact hn rfl
      · rw [hb] at hk; cases hk; exact hn rfl
    · omega
    · obtain ⟨_, ⟨_, _, _, e⟩, _⟩ := ex_row hx hr
      cases e
  m := fun b hb => .inl hb
  box := fun i wr cs hi h => by
    obtain ⟨_, _, h3, h4⟩ := ex_parts hx
    have hρ : (L.gh s s' g').ρ i = g'.ρ i := by simp [LoopAt.gh, hi]
    rcases state_at L s lk z i _ h with ⟨_, e⟩ | ⟨_, cs', hc, e⟩ | ⟨_, h1, h2, h2r, b, hb, e⟩ | ⟨h1, _⟩ | ⟨_, hr⟩
    · cases e
    · cases e
      cases hcn : cellsOf L.boxes ((valsOf L.kinds (rwsBase L.rws z) s.heap.length).drop L.slots.length) i with
      | none => rw [hcn] at hc; cases hc
      | some zz =>
        have : ∃ n, (i, n) ∈ L.boxes := Classical.byContradiction fun hn => by
          have hall : ∀ (bx : List (Nat × Nat)) (vs : List AVal), (∀ n, (i, n) ∉ bx) → cellsOf bx vs i = none := fun bx => by
            induction bx with
            | nil => intro vs _; rfl
            | cons p r ih =>
              intro vs hp
              obtain ⟨k, n⟩ := p
              simp only [cellsOf]
              rw [if_neg (fun e => by subst e; exact hp n (by simp))]
              exact ih _ fun n' hm => hp n' (List.mem_cons_of_mem _ hm)
          rw [hall _ _ fun n hm => hn ⟨n, hm⟩] at hcn; cases hcn
        obtain ⟨n, hn⟩ := this
        obtain ⟨i1, _, _⟩ := exKs_spec s'.heap g'.ρ L.kinds (L.vals s') (rwsBase L.rws z) s.heap.length h4
        have hvl : (L.vals s').length = L.slots.length + (L.boxes.flatMap fun b => boxAt s'.heap b.1).length := by simp [LoopAt.vals]
        rw [hcn] at hc
        cases hc
        obtain ⟨_, c2, _⟩ := cellsOf_some (boxAt s'.heap) L.boxes _ i _ hcn (fun b hb => (h3 b hb).2) (by rw [List.length_drop]; omega)
        exact ⟨_, _, boxAt_get (h3 (i, n) hn).1, c2.symm, hρ⟩
    · have hb' : ∃ wr', b = .box wr' cs := by
        rcases e with e | e
        · exact ⟨wr, e.symm⟩
        · exact lockB_box e.symm
      obtain ⟨wr', rfl⟩ := hb'
      rcases A.keep i _ hb (by simp) h1 h2 h2r with hk | ⟨hk, _⟩
      · exact ⟨_, _, hk, rfl, hρ⟩
      · exact ⟨_, _, hk, rfl, hρ⟩
    · omega
    · obtain ⟨_, ⟨_, _, _, e⟩, _⟩ := ex_row hx hr
      cases e
  row := fun i wr t e xs hi h => by
    have hρ : (L.gh s s' g').ρ i = g'.ρ i := by simp [LoopAt.gh, hi]
    rcases state_at L s lk z i _ h with ⟨_, e⟩ | ⟨_, cs', hc, e⟩ | ⟨_, h1, h2, h2r, b, hb, e⟩ | ⟨h1, _⟩ | ⟨_, hr⟩
    · cases e
    · cases e
    · have hb' : ∃ wr', b = .row wr' t _ xs := by
        rcases e with e | e
        · exact ⟨wr, e.symm⟩
        · exact lockB_row' e.symm
      obtain ⟨wr', rfl⟩ := hb'
      rcases A.keep i _ hb (by simp) h1 h2 h2r with hk | ⟨hk, _⟩
      · exact ⟨_, _, hk, rfl, hρ⟩
      · exact ⟨_, _, hk, rfl, hρ⟩
    · omega
    · exact ⟨_, _, (ex_row hx hr).1, rfl, hρ⟩
  lp := fun i st pend ts ps aw bo hi h => by
    have hρ : (L.gh s s' g').ρ i = g'.ρ i := by simp [LoopAt.gh, hi]
    rcases state_at L s lk z i _ h with ⟨_, e⟩ | ⟨_, cs', hc, e⟩ | ⟨_, h1, h2, h2r, b, hb, e⟩ | ⟨h1, _⟩ | ⟨_, hr⟩
    · cases e
    · cases e
    · have hb' : b = .lp st pend ts ps aw bo := by
        rcases e with e | e
        · exact e.symm
        · exact lockB_lp e.symm
      subst hb'
      rcases A.keep i _ hb (by simp) h1 h2 h2r with hk | ⟨hk, _⟩
      · exact ⟨_, _, hk, hρ⟩
      · exact ⟨_, _, hk, hρ⟩
    · omega
    · obtain ⟨_, ⟨_, _, _, e⟩, _⟩ := ex_row hx hr
      cases e
theorem AtEnd.newRow (hx : L.ex s' = some z) {i : Nat} (hi : s.heap.length ≤ i) {B : ABlk} (hB : (rowsOf L.kinds (rwsBase L.rws z))[i - s.heap.length]? = some B) :
    ∃ t e, ∃ xs : List e.ty, B = .row true t e xs ∧ ((∃ j, (ownsO L.kinds (L.vals s'))[i - s.heap.length]? = some (some j) ∧ s'.heap[j]? = some (.row true t e xs) ∧ (L.gh s s' g').ρ i = g'.ρ j) ∨ (xs = [] ∧ 0 < e.size ∧ (L.gh s s' g').ρ i = .slice none 0 0)) := by
  obtain ⟨_, _, _, h4⟩ := ex_parts hx
  obtain ⟨h5, h6⟩ := rows_at _ _ _ _ h4
  have hlt : i - s.heap.length < (ownsO L.kinds (L.vals s')).length := by
    have := (List.getElem?_eq_some_iff.1 hB).1; omega
  obtain ⟨t, e, xs, a1, a2⟩ := h6 _ _ (List.getElem?_eq_getElem hlt)
  rw [hB] at a1
  cases a1
  have hρ : (L.gh s s' g').ρ i = srcV g'.ρ ((ownsO L.kinds (L.vals s'))[i - s.heap.length]) := by
    simp only [LoopAt.gh]
    rw [if_neg (by omega), srcOf_eq, List.getD_eq_getElem?_getD, List.getElem?_map, List.getElem?_eq_getElem hlt]
    rfl
  refine ⟨t, e, xs, rfl, ?_⟩
  rcases a2 with ⟨j, b1, b2⟩ | ⟨b1, b2, b3⟩
  · refine .inl ⟨j, ?_, b2, ?_⟩
    · rw [List.getElem?_eq_getElem hlt, b1]
    · rw [hρ, b1]; rfl
  · refine .inr ⟨b2, b3, ?_⟩
    rw [hρ, b1]; rfl
theorem AtEnd.car (A : AtEnd K L s s' g' w' a') (hx : L.ex s' = some z) (lk : Bool) {c c' : AVal} {x : Value} (hc : CarK s'.heap s.heap.length L.kinds (rwsBase L.rws z) (L.vals s') g'.ρ c c') (r : Rep s'.heap g' w' c x) :
    Rep (L.state s lk z).heap (L.gh s s' g') w' c' x := by
  rcases hc with ⟨sh, u, z, h1, h2, h3, rfl, h5⟩ | ⟨q, t, e, xs, rfl, h2, h3⟩
  · exact sim_val (peek1_rep (g' := L.gh s s' g') A.st r h1 (fun b hb => Or.inl hb) fun i hi b hb => Or.inr ⟨i, h5 i hi, hb⟩) h2 h3
  · have hq : q < (rowsOf L.kinds (rwsBase L.rws z)).length := (List.getElem?_eq_some_iff.1 h2).1
    have hl : Here (L.state s lk z).heap (s.heap.length + q) := by
      refine .of (b := .row true t e xs) ?_ (by simp)
      simp only [LoopAt.state]
      rw [List.getElem?_append_right (by rw [mapAt_length]; omega), mapAt_length, Nat.add_sub_cancel_left]
      exact h2
    have hsrc : (L.gh s s' g').ρ (s.heap.length + q) = ((srcOf g'.ρ L.kinds (L.vals s'))[q]?).getD Go.undef := by
      simp only [LoopAt.gh]
      rw [if_neg (by omega), List.getD_eq_getElem?_getD, Nat.add_sub_cancel_left]
    rcases h3 with ⟨i, rfl, a2, a3⟩ | ⟨rfl, rfl, a2, a3⟩
    · cases r with
      | own _ _ r1 r2 r3 =>
        refine .own _ _ hl r2 fun _ _ _ _ _ => ?_
        rw [hsrc, a3]
        exact r3 true t e xs a2
    · cases r with
      | nils =>
        refine .own _ _ hl rfl fun _ _ _ _ _ => ?_
        rw [hsrc, a3]; rfl
theorem AtEnd.from (A : AtEnd K L s s' g' w' a') (hx : L.ex s' = some z) (lk : Bool) {i b : Nat} (ha : alive (L.state s lk z).heap i) (hb : blockOf ((L.gh s s' g').ρ i) = some b) :
    ∃ j, alive s'.heap j ∧ blockOf (g'.ρ j) = some b ∧ j ∉ fzIn L.kinds (L.vals s') ∧ ((i < s.heap.length ∧ j = i ∧ i ∉ ownsIn L.kinds (L.vals s')) ∨ (s.heap.length ≤ i ∧ (ownsO L.kinds (L.vals s'))[i - s.heap.length]? = some (some j))) := by
  obtain ⟨h1, h2, h3, h4⟩ := ex_parts hx
  obtain ⟨B, hB, hd⟩ := ha
  have ownRow : ∀ j, j ∈ ownsIn L.kinds (L.vals s') → ∃ t e, ∃ xs : List e.ty, s'.heap[j]? = some (.row true t e xs) := fun j hj => by
    rw [ownsIn_eq, List.mem_filterMap] at hj
    obtain ⟨o, ho, e⟩ := hj
    simp only [id] at e
    subst e
    obtain ⟨q, hq⟩ := List.mem_iff_getElem?.1 ho
    obtain ⟨t, e, xs, _, a2⟩ := (rows_at _ _ _ _ h4).2 q _ hq
    rcases a2 with ⟨i, b1, b2⟩ | ⟨b1, _⟩
    · cases b1; exact ⟨t, e, xs, b2⟩
    · cases b1
  have hρ : i < s.heap.length → (L.gh s s' g').ρ i = g'.ρ i := fun hi => by simp [LoopAt.gh, hi]
  have kept : ∀ B', s'.heap[i]? = some B' → B' ≠ .dead → (∀ t e, ∀ xs : List e.ty, B' ≠ .row true t e xs) → i < s.heap.length →
      ∃ j, alive s'.heap j ∧ blockOf (g'.ρ j) = some b ∧ j ∉ fzIn L.kinds (L.vals s') ∧ ((i < s.heap.length ∧ j = i ∧ i ∉ ownsIn L.kinds (L.vals s')) ∨ (s.heap.length ≤ i ∧ (ownsO L.kinds (L.vals s'))[i - s.heap.length]? = some (some j))) := fun B' e1 e2 e3 hi => by
    refine ⟨i, ⟨B', e1, e2⟩, by rw [← hρ hi]; exact hb, fun hf => ?_, .inl ⟨hi, rfl, fun ho => ?_⟩⟩
    · obtain ⟨t, e, xs, hr⟩ := rowB_get (h2 i hf).1
      rw [e1] at hr; cases hr; exact e3 _ _ _ rfl
    · obtain ⟨t, e, xs, hr⟩ := ownRow i ho
      rw [e1] at hr; cases hr; exact e3 _ _ _ rfl
  rcases state_at L s lk z i B hB with ⟨_, e⟩ | ⟨hi, cs, hc, e⟩ | ⟨hi, k1, k2, k2r, b0, hb0, e⟩ | ⟨hi, e⟩ | ⟨hi, hr⟩
  · exact absurd e hd
  · obtain ⟨wr', cs', e1, _, _⟩ := (A.moves hx lk).box i true cs hi (by rw [hB, e])
    exact kept _ e1 (by simp) (fun t e xs h => by cases h) hi
  · have hb0d : b0 ≠ .dead := fun e' => by
      subst e'
      rcases e with e | e <;> exact hd e
    rcases A.keep i b0 hb0 hb0d k1 k2 k2r with hk | ⟨hk, n1, n2⟩
    · exact kept _ hk (by cases b0 <;> simp [lockB] at hb0d ⊢) (fun t e xs => lockB_row) hi
    · exact ⟨i, ⟨b0, hk, hb0d⟩, by rw [← hρ hi]; exact hb, n2, .inl ⟨hi, rfl, n1⟩⟩
  · obtain ⟨t, e', xs, hBr, hh⟩ := AtEnd.newRow (g' := g') hx hi e
    rcases hh with ⟨j, c1, c2, c3⟩ | ⟨_, _, c3⟩
    · refine ⟨j, ⟨_, c2, by simp⟩, by rw [← c3]; exact hb, fun hf => ?_, .inr ⟨hi, c1⟩⟩
      refine (h2 j hf).2 ?_
      rw [ownsIn_eq, List.mem_filterMap]
      exact ⟨some j, List.mem_of_getElem? c1, rfl⟩
    · rw [c3] at hb; cases hb
  · obtain ⟨e1, _, e2, e3⟩ := ex_row hx hr
    exact ⟨i, ⟨B, e1, hd⟩, by rw [← hρ hi]; exact hb, e3, .inl ⟨hi, rfl, e2⟩⟩
theorem AtEnd.fz (A : AtEnd K L s s' g' w' a') (hx : L.ex s' = some z) {b : Nat} (hb : (L.gh s s' g').M b) : g'.M b ∨ ∃ j ∈ fzIn L.kinds (L.vals s'), alive s'.heap j ∧ blockOf (g'.ρ j) = some b := by
  obtain ⟨_, h2, _, _⟩ := ex_parts hx
  rcases hb with hb | ⟨j, hj, hb⟩
  · exact .inl hb
  · obtain ⟨t, e, xs, hr⟩ := rowB_get (h2 j hj).1
    exact .inr ⟨j, hj, ⟨_, hr, by simp⟩, hb⟩
theorem AtEnd.st' (A : AtEnd K L s s' g' w' a') (hx : L.ex s' = some z) (lk : Bool) : St K (L.state s lk z).heap (L.gh s s' g') w' where
  blk := fun i B hB => by
    obtain ⟨_, _, h3, h4⟩ := ex_parts hx
    have mv := A.moves hx lk
    have hρ : i < s.heap.length → (L.gh s s' g').ρ i = g'.ρ i := fun hi => by simp [LoopAt.gh, hi]
    rcases state_at L s lk z i B hB with ⟨_, e⟩ | ⟨hi, cs, hc, e⟩ | ⟨hi, k1, k2, k2r, b0, hb0, e⟩ | ⟨hi, e⟩ | ⟨hi, hr⟩
    · subst e; trivial
    · subst e
      obtain ⟨wr', cs', e1, _, _⟩ := mv.box i true cs hi hB
      obtain ⟨i1, _, i3⟩ := exKs_spec s'.heap g'.ρ L.kinds (L.vals s') (rwsBase L.rws z) s.heap.length h4
      have hvl : (L.vals s').length = L.slots.length + (L.boxes.flatMap fun b => boxAt s'.heap b.1).length := by simp [LoopAt.vals]
      obtain ⟨⟨n, hn⟩, c2, c3⟩ := cellsOf_some (boxAt s'.heap) L.boxes _ i cs hc (fun b hb => (h3 b hb).2) (by rw [List.length_drop]; omega)
      obtain ⟨b, arr, t, d1, d2, d3, d4⟩ := A.st.blk i _ (boxAt_get (h3 _ hn).1)
      refine ⟨b, arr, t, by rw [hρ hi]; exact d1, d2, by rw [d3, c2], fun j c' z hj hz => ?_⟩
      obtain ⟨m, c, f1, f2, f3⟩ := c3 j c' hj
      have hv : (L.vals s')[L.slots.length + m]? = some c := by
        simp only [LoopAt.vals]
        rw [List.getElem?_append_right (by simp), List.length_map, Nat.add_sub_cancel_left]
        exact f1
      rw [List.getElem?_drop] at f3
      have car := i3 _ c c' hv f3
      obtain ⟨d5, d6⟩ := d4 j c z f2 hz
      exact ⟨car_scalar car d5, A.car hx lk car d6⟩
    · have hb0k : BlkOk s'.heap g' w' i b0 := by
        cases hd : b0 with
        | dead => trivial
        | free => trivial
        | _ =>
          rw [← hd]
          have hb0d : b0 ≠ .dead := by rw [hd]; simp
          rcases A.keep i b0 hb0 hb0d k1 k2 k2r with hk | ⟨hk, _⟩
          · rw [← blk_lock]; exact A.st.blk i _ hk
          · exact A.st.blk i _ hk
      have goal : BlkOk (L.state s lk z).heap (L.gh s s' g') w' i b0 := by
        cases b0 with
        | dead => trivial
        | free => trivial
        | box wr cs =>
          obtain ⟨b, arr, t, d1, d2, d3, d4⟩ := hb0k
          refine ⟨b, arr, t, by rw [hρ hi]; exact d1, d2, d3, fun j c z hj hz => ?_⟩
          obtain ⟨d5, d6⟩ := d4 j c z hj hz
          exact ⟨d5, d6.move (A.bdh i wr cs hb0 j c hj) mv⟩
        | row wr t e0 xs =>
          have o : RowOk s'.heap g' w' (g'.ρ i) t e0 xs := hb0k
          show RowOk _ _ w' ((L.gh s s' g').ρ i) t e0 xs
          rw [hρ hi]; exact o.same mv.m
        | lp st pend ts ps aw bo =>
          obtain ⟨b, arr, fn, D, d1, d2, d3, d4⟩ := hb0k
          exact ⟨b, arr, fn, D, by rw [hρ hi]; exact d1, d2, d3, fun j c zz hj hz => (d4 j c zz hj hz).move (A.bdl i st pend ts ps aw bo hb0 j c hj) mv⟩
      rcases e with e | e
      · rw [e]; exact goal
      · rw [e, blk_lock]; exact goal
    · obtain ⟨t, e', xs, hBr, hh⟩ := AtEnd.newRow (g' := g') hx hi e
      subst hBr
      rcases hh with ⟨j, c1, c2, c3⟩ | ⟨c1, c2, c3⟩
      · have o : RowOk s'.heap g' w' (g'.ρ j) t e' xs := A.st.blk j _ c2
        show RowOk _ _ w' ((L.gh s s' g').ρ i) t e' xs
        rw [c3]; exact o.same mv.m
      · subst c1
        refine (rowOk_iff c2).2 ⟨[], by rw [c3]; exact World.ownsRow_nil w' 0 t e'.size, fun n x j c hn _ => by simp at hn⟩
    · obtain ⟨e1, ⟨t, e0, xs, e2⟩, _⟩ := ex_row hx hr
      subst e2
      have o : RowOk s'.heap g' w' (g'.ρ i) t e0 xs := A.st.blk i _ e1
      show RowOk _ _ w' ((L.gh s s' g').ρ i) t e0 xs
      rw [hρ hi]; exact o.same mv.m
  inj := fun i j b hi hj hbi hbj => by
    obtain ⟨h1, _, _, _⟩ := ex_parts hx
    obtain ⟨i', a1, a2, _, a4⟩ := A.from hx lk hi hbi
    obtain ⟨j', b1, b2, _, b4⟩ := A.from hx lk hj hbj
    have e := A.st.inj i' j' b a1 b1 a2 b2
    subst e
    have own : ∀ q, (ownsO L.kinds (L.vals s'))[q]? = some (some i') → i' ∈ ownsIn L.kinds (L.vals s') := fun q hq => by
      rw [ownsIn_eq, List.mem_filterMap]; exact ⟨_, List.mem_of_getElem? hq, rfl⟩
    rcases a4 with ⟨c1, c2, c3⟩ | ⟨c1, c2⟩ <;> rcases b4 with ⟨d1, d2, d3⟩ | ⟨d1, d2⟩
    · omega
    · subst c2; exact absurd (own _ d2) c3
    · subst d2; exact absurd (own _ c2) d3
    · rw [ownsIn_eq] at h1
      have := once _ h1 _ _ _ c2 d2
      omega
  sep := fun i b hi hb => by
    obtain ⟨j, a1, a2, a3, _⟩ := A.from hx lk hi hb
    obtain ⟨b1, b2, b3⟩ := A.st.sep j b a1 a2
    refine ⟨b1, fun hM => ?_, b3⟩
    rcases A.fz hx hM with hM | ⟨f, f1, f2, f3⟩
    · exact b2 hM
    · exact a3 (by rw [A.st.inj j f b a1 f2 a2 f3]; exact f1)
  low := fun b hb => by
    rcases A.fz hx hb with hM | ⟨f, f1, f2, f3⟩
    · exact A.st.low b hM
    · exact (A.st.sep f b f2 f3).2.2
  klow := A.st.klow
theorem AtEnd.new (A : AtEnd K L s s' g' w' a') (hx : L.ex s' = some z) (b : Nat) (hb : (L.gh s s' g').M b) : g'.M b ∨ ¬ K b := by
  rcases A.fz hx hb with hM | ⟨f, f1, f2, f3⟩
  · exact .inl hM
  · exact .inr (A.st.sep f b f2 f3).1
theorem AtEnd.here (A : AtEnd K L s s' g' w' a') (hx : L.ex s' = some z) (lk : Bool) {i : Nat} (hi : i < s.heap.length) (h : Here s'.heap i) : Here (L.state s lk z).heap i := (A.moves hx lk).here i hi h
theorem AtEnd.le' {K0 : Nat → Prop} {g : Gh} {w : World} (A : AtEnd K L s s' g' w' a') (hx : L.ex s' = some z) (lk : Bool) (hK : ∀ b, K0 b → K b) (l : Le K0 s.heap g w s'.heap g' w') : Le K0 s.heap g w (L.state s lk z).heap (L.gh s s' g') w' where
  len := by rw [state_len]; omega
  here := fun i hi => A.here hx lk hi.lt (l.here i hi)
  m := fun b hb => .inl (l.m b hb)
  new := fun b hb => (A.new hx b hb).elim (l.new b) fun h => .inr fun k => h (hK b k)
  mw := l.mw
  k := l.k
  box := fun i wr cs' hi h => by
    obtain ⟨wr1, cs1, h1, h2, h3⟩ := (A.moves hx lk).box i wr cs' hi.lt h
    obtain ⟨wr2, cs2, h4, h5, h6⟩ := l.box i wr1 cs1 hi h1
    exact ⟨wr2, cs2, h4, by omega, h3.trans h6⟩
  row := fun i wr t e xs' hi h => by
    obtain ⟨wr1, cs1, h1, h2, h3⟩ := (A.moves hx lk).row i wr t e xs' hi.lt h
    obtain ⟨wr2, cs2, h4, h5, h6⟩ := l.row i wr1 t e cs1 hi h1
    exact ⟨wr2, cs2, h4, fun h0 => by have := h5 h0; omega, h3.trans h6⟩
  lp := fun i st pend ts ps aw bo hi h => by
    obtain ⟨st1, p1, h1, h3⟩ := (A.moves hx lk).lp i st pend ts ps aw bo hi.lt h
    obtain ⟨st2, p2, h4, h6⟩ := l.lp i st1 p1 ts ps aw bo hi h1
    exact ⟨st2, p2, h4, h3.trans h6⟩
  lockb := fun i cs h => by
    obtain ⟨h1, h2, h3⟩ := A.lock0 i _ h rfl (by simp)
    have := state_kept L s lk z i _ h h1 h2 h3
    rw [this]; cases lk <;> rfl
  lockr := fun i t e xs h => by
    obtain ⟨h1, h2, h3⟩ := A.lock0 i _ h rfl (by simp)
    have := state_kept L s lk z i _ h h1 h2 h3
    rw [this]; cases lk <;> rfl
  os := l.os
  tape := l.tape
  output := l.output
  size := l.size
theorem AtEnd.tr' (A : AtEnd K L s s' g' w' a') (hx : L.ex s' = some z) (lk : Bool) : TRep (L.state s lk z).heap (L.gh s s' g') w' (L.state s lk z).tmps a'.tmps := by
  obtain ⟨_, _, _, h4⟩ := ex_parts hx
  obtain ⟨i1, _, i3⟩ := exKs_spec s'.heap g'.ρ L.kinds (L.vals s') (rwsBase L.rws z) s.heap.length h4
  refine ⟨by simp only [LoopAt.state]; rw [putAll_length, putAll_length, ← A.len]; exact A.tr.1, fun t c x hc hxx => ?_⟩
  simp only [LoopAt.state] at hc
  rcases putAll_get _ _ _ _ hc with ⟨m, v, h1, rfl⟩ | ⟨h0, h2⟩
  · rw [List.getElem?_zip_eq_some] at h1
    obtain ⟨h1, h2⟩ := h1
    have hv : (L.vals s')[m]? = some (s'.get t) := by
      have hm : m < L.slots.length := (List.getElem?_eq_some_iff.1 h1).1
      simp only [LoopAt.vals]
      rw [List.getElem?_append_left (by simpa using hm), List.getElem?_map, h1]
      rfl
    have := A.tr.get t
    have e : a'.tmps.getD t Go.undef = x := by simp [Array.getD_eq_getD_getElem?, hxx]
    rw [e] at this
    exact A.car hx lk (i3 _ _ _ hv h2) this
  · rcases putAll_get _ _ _ _ h2 with ⟨m, v, h1, rfl⟩ | ⟨h1, h3⟩
    · rw [List.getElem?_map] at h1
      cases hd : L.dsts[m]? with
      | none => rw [hd] at h1; cases h1
      | some d => rw [hd] at h1; cases h1; exact .any _
    · have hn : t ∉ L.dsts := fun hm => h1 .any (List.mem_map.2 ⟨t, hm, rfl⟩)
      have hs : t ∉ L.slots := fun hm => by
        obtain ⟨m, hm⟩ := List.mem_iff_getElem?.1 hm
        have hlt : m < (valsOf L.kinds (rwsBase L.rws z) s.heap.length).length := by
          have := (List.getElem?_eq_some_iff.1 hm).1
          rw [← i1]; simp only [LoopAt.vals, List.length_append, List.length_map]; omega
        exact h0 _ (List.mem_of_getElem? (i := m) (List.getElem?_zip_eq_some.2 ⟨hm, List.getElem?_eq_getElem hlt⟩))
      exact (A.tr.2 t c x (by rw [A.slots t hn hs]; exact h3) hxx).move (A.bds t c h3) (A.moves hx lk)
end
end Go.Proofs.Ytcbfmkfmdcabmaa

namespace Go.Proofs.Ytcbfmkfmdcabmaa
def pairE (x : AExit) (s : AS) : Option (AExit × AS) := some (x, s)
theorem real_part {α : Type} (b : Bool) (x y : Option α) : real.part b x y = bif b then x else y := rfl
theorem real_iff {α : Type} (p : Prop) (d : Decidable p) (x y : Option α) : real.iff p d x y = if p then x else y := rfl
section
variable {P : Program} {T : Tab} {env : Env} {α : Type}
theorem evOp_nat (hE : EnvOk P env) (dr : Bool) (o : Oper) (s : AS) (k : AExit → AVal → AS → Option α) :
    evOp real T env dr o s k = (evOpH real T env dr o.op o.type s.ev s.heap fun x v h => some (x, v, h)).bind fun p => k p.1 p.2.1 { s with heap := p.2.2 } := by
  unfold evOp
  exact evOpH_nat hE ..
theorem evOps_nat (hE : EnvOk P env) (dr : Bool) (ops : Array Oper) (k : AExit → AS → Option α) : ∀ (rest : List Oper) (s : AS), evOps real T env dr ops rest s k = (evOps real T env dr ops rest s pairE).bind fun p => k p.1 p.2
  | [], s => rfl
  | o :: rest, s => by
    have hgo : ∀ st : AS, (evOp real T env dr o st fun x v s' => match x with
        | .normal => evOps real T env dr ops rest (s'.put o.dst v) k
        | x => bif dr then none else k x s') = (evOp real T env dr o st fun x v s' => match x with
        | .normal => evOps real T env dr ops rest (s'.put o.dst v) pairE
        | x => bif dr then none else pairE x s').bind fun p => k p.1 p.2 := fun st => by
      rw [evOp_nat hE, evOp_nat hE (k := fun x v s' => match x with
        | .normal => evOps real T env dr ops rest (s'.put o.dst v) pairE
        | x => bif dr then none else pairE x s')]
      cases evOpH real T env dr o.op o.type st.ev st.heap (fun x v h => some (x, v, h)) with
      | none => rfl
      | some p =>
        obtain ⟨x, v, h⟩ := p
        cases x with
        | normal => exact evOps_nat hE dr ops k rest _
        | _ => cases dr <;> rfl
    simp only [evOps]
    split
    · exact hgo s
    · rename_i j want _
      split
      · rfl
      · split
        · rename_i b _
          cases b <;> cases want
          · exact hgo _
          · exact evOps_nat hE dr ops k rest _
          · exact evOps_nat hE dr ops k rest _
          · exact hgo _
        · exact evOps_nat hE dr ops k rest _
        · rfl
def liftL {σ β α : Type} (k : β → Option α) : Option (LRes σ β) → Option (LRes σ α)
  | some (.cont y) => some (.cont y)
  | some (.brk i y) => some (.brk i y)
  | some (.fin p) => finL (k p)
  | none => none
theorem iterL_lift {σ β α : Type} (k : β → Option α) {f : σ → Option (LRes σ α)} {g : σ → Option (LRes σ β)} (h : ∀ x, f x = liftL k (g x)) : ∀ (n : Nat) (x : σ), iterL n f x = liftL k (iterL n g x)
  | 0, _ => rfl
  | n + 1, x => by
    simp only [iterL, h x]
    cases g x with
    | none => rfl
    | some r =>
      cases r with
      | cont y => exact iterL_lift k h n y
      | brk i y => rfl
      | fin p => simp only [liftL]; cases k p <;> rfl
theorem afterL_lift {σ β α : Type} (k : β → Option α) {K : Nat → σ → Option α} {K' : Nat → σ → Option β} (h : ∀ i y, K i y = (K' i y).bind k) (r : Option (LRes σ β)) : afterL (liftL k r) K = (afterL r K').bind k := by
  cases r with
  | none => rfl
  | some r =>
    cases r with
    | cont y => rfl
    | brk i y => exact h i y
    | fin p =>
      show afterL (finL (k p)) K = k p
      cases k p <;> rfl
theorem goOut_nat {σ β : Type} (k : β → Option α) (outs : List Nat) (id : Nat) (x : σ) {K : Nat → σ → Option α} {K' : Nat → σ → Option β} (h : ∀ i y, K i y = (K' i y).bind k) : goOut real outs id x K = (goOut real outs id x K').bind k := by
  induction outs with
  | nil => rfl
  | cons o r ih =>
    simp only [goOut, real_iff, ite_bind']
    rw [h]; congr 1
theorem bind_nat {β : Type} {e : {γ : Type} → (AExit → AS → Option γ) → Option γ} (H : ∀ {γ : Type} (k : AExit → AS → Option γ), e k = (e pairE).bind fun p => k p.1 p.2) {k1 : AExit → AS → Option α} {k2 : AExit → AS → Option β} (k : β → Option α) (hk : ∀ x s', k1 x s' = (k2 x s').bind k) : e k1 = (e k2).bind k := by
  rw [H k1, H k2]
  cases e pairE with
  | none => rfl
  | some p => exact hk _ _
theorem bindl_nat {σ β : Type} {e : {γ : Type} → (AExit → AS → Option γ) → Option γ} (H : ∀ {γ : Type} (k : AExit → AS → Option γ), e k = (e pairE).bind fun p => k p.1 p.2) {k1 : AExit → AS → Option (LRes σ α)} {k2 : AExit → AS → Option (LRes σ β)} (k : β → Option α) (hk : ∀ x s', k1 x s' = liftL k (k2 x s')) : e k1 = liftL k (e k2) := by
  rw [H k1, H k2]
  cases e pairE with
  | none => rfl
  | some p => exact hk _ _
theorem region_nat (hE : EnvOk P env) {ops : Array Oper} (s : AS) (k : AExit → AS → Option α) : evRegion real T env ops s k = (evRegion real T env ops s pairE).bind fun p => k p.1 p.2 := by
  unfold evRegion
  generalize hidSet env s.heap.length ops.toList (waitsL ops.toList []) s = hh
  replace hE : EnvOk P (env.withHid hh) := ⟨hE.fs, hE.cv⟩
  revert hE
  generalize env.withHid hh = env
  intro hE
  refine (draw_nat hE ..).trans ?_
  refine Eq.trans ?_ (congrArg (fun z : Option (AExit × AS) => Option.bind z fun p => k p.1 p.2) (draw_nat hE ..).symm)
  cases evDraw real T env s.heap.length ops (waitsL ops.toList []) ops.toList 0 { s with heap := s.heap ++ List.replicate ((ops.toList.filter fun o => isAlloc (rpOf ops.toList) o.op).length) .free } none [] (fun p s => some (p, s)) with
  | none => rfl
  | some p =>
    obtain ⟨p, s'⟩ := p
    cases p <;> rfl
theorem ev_nat (hE : EnvOk P env) (N : Nat) : ∀ (c : Code) {α : Type} (s : AS) (k : AExit → AS → Option α), ev real T env N c s k = (ev real T env N c s pairE).bind fun p => k p.1 p.2
  | .skip, _, s, k => rfl
  | .label _, _, s, k => rfl
  | .region _ ops dr, _, s, k => by
    simp only [ev, bif_bind]
    congr 1
    · refine bind_nat (e := fun k => evRegion real T env ops s k) (fun k => region_nat hE s k) _ fun x s' => ?_
      cases x with
      | normal => rfl
      | _ => rfl
    · refine bind_nat (e := fun k => evOps real T env false ops ops.toList s k) (fun k => evOps_nat hE false ops k _ s) _ fun x s' => ?_
      cases x with
      | normal => rfl
      | _ => rfl
  | .seq a b, _, s, k => by
    simp only [ev]
    refine bind_nat (e := fun k => ev real T env N a s k) (fun k => ev_nat hE N a s k) _ fun x s' => ?_
    cases x with
    | normal => exact ev_nat hE N b s' k
    | _ => rfl
  | .cond c a b, _, s, k => by
    simp only [ev]
    split
    · simp only [real_part, bif_bind]
      rw [ev_nat hE N a s k, ev_nat hE N b s k]
    · rfl
  | .block id c, _, s, k => by
    simp only [ev]
    refine bind_nat (e := fun k => ev real T env N c s k) (fun k => ev_nat hE N c s k) _ fun x s' => ?_
    cases x with
    | exit j => simp only [ite_bind', pairE, Option.bind_some]
    | _ => rfl
  | .loop c, α, s, k => by
    simp only [ev]
    split
    · rfl
    · rename_i L _
      split
      · rfl
      · rename_i x0 _
        refine Eq.trans ?_ (afterL_lift (fun p : AExit × AS => k p.1 p.2) (K := fun id y => goOut real (dedup (exitsOf c)) id y fun o y => k (.exit o) (L.state s false y)) (K' := fun id y => goOut real (dedup (exitsOf c)) id y fun o y => pairE (.exit o) (L.state s false y))
          (fun i y => goOut_nat _ _ _ _ fun _ _ => rfl) _)
        show afterL _ _ = _
        congr 1
        refine iterL_lift (fun p : AExit × AS => k p.1 p.2) (fun x => ?_) _ _
        refine bindl_nat (e := fun k => ev real T env N c (L.state s true x) k) (fun k => ev_nat hE N c _ k) _ fun e s' => ?_
        cases e with
        | normal => simp only; cases L.ex s' <;> rfl
        | exit id =>
          simp only
          split
          · cases L.ex s' <;> rfl
          · rfl
        | ret => rfl
        | pan v => rfl
  | .exit id, _, s, k => rfl
  | .ret, _, s, k => rfl
  | .scope c, _, s, k => by simp only [ev]; exact ev_nat hE N c s k
  | .goto _, _, s, k => rfl
  | .rangeFunc f ps asg bo, _, s, k => by
    simp only [ev]
    cases hasRange asg || hasRange bo
    · simp only [cond_false]
      split
      case h_2 => rfl
      rename_i fid caps _
      rw [hE.cv.nat, hE.cv.nat (AExit × AS)]
      cases env.cv _ (.fn fid caps) [.yld s.heap.length] (s.heap ++ [.lp .ready none s.tmps ps.toList asg bo]) tripE with
      | none => rfl
      | some p =>
        obtain ⟨x, v, h⟩ := p
        simp only [Option.bind_some]
        cases x with
        | normal =>
          simp only
          split <;> rfl
        | pan v => rfl
        | ret => rfl
        | exit id => rfl
    · rfl
  | .refuse _, _, s, k => rfl
theorem ev_pair (hE : EnvOk P env) {N : Nat} {c : Code} {s : AS} {k : AExit → AS → Option α} {r : α} (h : ev real T env N c s k = some r) : ∃ x1 s1, ev real T env N c s pairE = some (x1, s1) ∧ k x1 s1 = some r := by
  rw [ev_nat hE] at h
  cases hx : ev real T env N c s pairE with
  | none => rw [hx] at h; cases h
  | some p => rw [hx] at h; exact ⟨p.1, p.2, rfl, h⟩
end
end Go.Proofs.Ytcbfmkfmdcabmaa

namespace Go.Proofs.Ytcbfmkfmdcabmaa
structure Fr (ds : List Nat) (s : AS) (x : AExit) (s' : AS) : Prop where
  len : s'.tmps.length = s.tmps.length
  on : (x = .normal ∨ ∃ id, x = .exit id) → ∀ t, t ∉ ds → (∀ i, s.tmps[t]? ≠ some (.own i)) → s'.tmps[t]? = s.tmps[t]?
theorem Fr.refl {ds s x} : Fr ds s x s := ⟨rfl, fun _ _ _ _ => rfl⟩
theorem putAll_other {t : Nat} : ∀ (ps : List (Nat × AVal)) (l : List AVal), (∀ v, (t, v) ∉ ps) → (putAll l ps)[t]? = l[t]?
  | [], _, _ => rfl
  | (u, v) :: ps, l, h => by
    simp only [putAll]
    rw [putAll_other ps _ fun v' hm => h v' (List.mem_cons_of_mem _ hm), List.getElem?_set_ne]
    exact fun e => by subst e; exact h v (by simp)
theorem iterL_last {σ α : Type} {f : σ → Option (LRes σ α)} {R : LRes σ α} : ∀ (n : Nat) (x : σ), iterL n f x = some R → ∃ y, f y = some R
  | 0, x, h => by cases h
  | n + 1, x, h => by
    simp only [iterL] at h
    split at h
    · exact iterL_last n _ h
    · exact ⟨x, h⟩
theorem loop_some {σ α : Type} {f : σ → Option (LRes σ α)} {K : Nat → σ → Option α} {r : α} {n : Nat} {x : σ} (h : real.loop n f x K = some r) : ∃ R, iterL n f x = some R ∧ ((∃ id y, R = .brk id y ∧ K id y = some r) ∨ R = .fin r) := by
  change afterL (iterL n f x) K = some r at h
  cases hi : iterL n f x with
  | none => rw [hi] at h; cases h
  | some R =>
    rw [hi] at h
    refine ⟨R, rfl, ?_⟩
    cases R with
    | cont y => cases h
    | brk id y => exact .inl ⟨id, y, rfl, h⟩
    | fin p => cases h; exact .inr rfl
theorem goOut_some {σ α : Type} {id : Nat} {x : σ} {K : Nat → σ → Option α} {r : α} : ∀ (outs : List Nat), goOut real outs id x K = some r → id ∈ outs ∧ K id x = some r
  | [], h => by cases h
  | o :: q, h => by
    simp only [goOut, real_iff] at h
    split at h
    · rename_i e
      subst e
      exact ⟨by simp, h⟩
    · obtain ⟨h1, h2⟩ := goOut_some q h
      exact ⟨List.mem_cons_of_mem _ h1, h2⟩
theorem get_eq {s : AS} {t : Nat} {v : AVal} (h : s.get t = v) (hv : v ≠ .any) : s.tmps[t]? = some v := by
  unfold AS.get at h
  rw [List.getD_eq_getElem?_getD] at h
  cases hx : s.tmps[t]? with
  | none => rw [hx] at h; exact absurd h.symm hv
  | some u => rw [hx] at h; simp at h; rw [h]
theorem carried_mem (s : AS) : ∀ (l : List Nat) (p : Nat × Kd), p ∈ carried s l → p.1 ∈ l
  | [], p, h => by simp [carried] at h
  | t :: r, p, h => by
    simp only [carried] at h
    split at h
    · rcases List.mem_cons.1 h with e | e
      · subst e; simp
      · exact List.mem_cons_of_mem _ (carried_mem s r p e)
    · exact List.mem_cons_of_mem _ (carried_mem s r p h)
theorem loopAt_spec {imp : Bool} {only : Option (List Nat)} {s : AS} {c : Code} {L : LoopAt} (h : loopAt imp only s c = some L) : L.dsts = dedup (dstsOf c) ∧ (∀ t ∈ L.slots, t ∈ L.dsts ∨ ∃ i, s.get t = .own i) ∧ L.held = heldOf (L.dsts ++ L.slots) s.tmps 0 ∧ L.owns = ownsIn L.kinds (L.vals s) ∧ fzIn L.kinds (L.vals s) = [] ∧ lpsOf s.heap 0 = some L.lps := by
  unfold loopAt at h
  cases only
  all_goals
    simp only at h
    split at h
    · cases h
    · rename_i ks _
      split at h
      · cases h
      rename_i lps hlps
      rw [cond_eq_ite (fzIn _ _).isEmpty] at h
      split at h
      case isFalse => cases h
      rename_i hz
      cases h
      refine ⟨rfl, fun t ht => ?_, rfl, ?_, ?_, hlps⟩
      · simp only [List.mem_map] at ht
        obtain ⟨p, hp, rfl⟩ := ht
        have := carried_mem s _ p hp
        cases imp
        case true => exact .inl this
        simp only [cond_false] at this
        rcases List.mem_append.1 this with hm | hm
        · exact .inl hm
        · have := (List.mem_filter.1 hm).2
          simp only [Bool.and_eq_true] at this
          have h2 := this.2
          split at h2
          · rename_i i hi
            exact .inr ⟨i, hi⟩
          · cases h2
      · simp only [LoopAt.vals, List.flatMap_map]
      · simpa only [LoopAt.vals, List.flatMap_map, List.isEmpty_iff] using hz
theorem state_other {L : LoopAt} {s : AS} {lk : Bool} {y : L.ty} {t : Nat} (h1 : t ∉ L.dsts) (h2 : t ∉ L.slots) : (L.state s lk y).tmps[t]? = s.tmps[t]? := by
  simp only [LoopAt.state]
  rw [putAll_other, putAll_other]
  · intro v hm
    obtain ⟨u, hu, e⟩ := List.mem_map.1 hm
    cases e; exact h1 hu
  · intro v hm
    exact h2 (List.of_mem_zip hm).1
theorem state_tlen {L : LoopAt} {s : AS} {lk : Bool} {y : L.ty} : (L.state s lk y).tmps.length = s.tmps.length := by
  simp only [LoopAt.state]
  rw [putAll_length, putAll_length]
theorem dsts_seq (a b : Code) : b = .ret ∨ dstsOf (.seq a b) = dstsOf a ++ dstsOf b := by
  cases b with
  | ret => exact .inl rfl
  | _ => right; cases a <;> rfl
theorem put_len (s : AS) (dst : Option Nat) (v : AVal) : (s.put dst v).tmps.length = s.tmps.length := by cases dst <;> simp [AS.put]
theorem put_ne (s : AS) (dst : Option Nat) (v : AVal) (t : Nat) (h : dst ≠ some t) : (s.put dst v).tmps[t]? = s.tmps[t]? := by
  cases dst with
  | none => rfl
  | some d => exact List.getElem?_set_ne fun e => h (by rw [e])
section
variable {P : Program} {T : Tab} {env : Env} {α : Type}
theorem evOps_frame (hE : EnvOk P env) (dr : Bool) (ops : Array Oper) : ∀ (rest : List Oper) (s : AS) (x : AExit) (s' : AS), evOps real T env dr ops rest s pairE = some (x, s') →
    s'.tmps.length = s.tmps.length ∧ ∀ t, t ∉ rest.filterMap (·.dst) → s'.tmps[t]? = s.tmps[t]?
  | [], s, x, s', h => by
    simp only [evOps, pairE, Option.some.injEq, Prod.mk.injEq] at h
    rw [h.2]; exact ⟨rfl, fun _ _ => rfl⟩
  | o :: rest, s, x, s', h => by
    have hd : ∀ t, t ∉ (o :: rest).filterMap (·.dst) → o.dst ≠ some t ∧ t ∉ rest.filterMap (·.dst) := fun t ht => by
      refine ⟨fun e => ht ?_, fun hm => ht ?_⟩
      · exact List.mem_filterMap.2 ⟨o, by simp, e⟩
      · obtain ⟨o', h1, h2⟩ := List.mem_filterMap.1 hm
        exact List.mem_filterMap.2 ⟨o', List.mem_cons_of_mem _ h1, h2⟩
    have hskip : evOps real T env dr ops rest (s.put o.dst .undef) pairE = some (x, s') → s'.tmps.length = s.tmps.length ∧ ∀ t, t ∉ (o :: rest).filterMap (·.dst) → s'.tmps[t]? = s.tmps[t]? := fun h => by
      obtain ⟨h1, h2⟩ := evOps_frame hE dr ops rest _ x s' h
      exact ⟨h1.trans (put_len ..), fun t ht => (h2 t (hd t ht).2).trans (put_ne _ _ _ _ (hd t ht).1)⟩
    have hgo : (evOp real T env dr o s fun x v s' => match x with
        | .normal => evOps real T env dr ops rest (s'.put o.dst v) pairE
        | x => bif dr then none else pairE x s') = some (x, s') → s'.tmps.length = s.tmps.length ∧ ∀ t, t ∉ (o :: rest).filterMap (·.dst) → s'.tmps[t]? = s.tmps[t]? := fun h => by
      rw [evOp_nat hE] at h
      cases hx : evOpH real T env dr o.op o.type s.ev s.heap (fun x v h => some (x, v, h)) with
      | none => rw [hx] at h; cases h
      | some p =>
        obtain ⟨y, v, hp⟩ := p
        rw [hx] at h
        simp only [Option.bind_some] at h
        have done : (bif dr then none else pairE y { s with heap := hp }) = some (x, s') → s'.tmps = s.tmps := fun h => by
          cases dr
          · simp only [cond_false, pairE, Option.some.injEq, Prod.mk.injEq] at h
            rw [← h.2]
          · cases h
        cases y with
        | normal =>
          obtain ⟨h1, h2⟩ := evOps_frame hE dr ops rest _ x s' h
          exact ⟨h1.trans (put_len ..), fun t ht => (h2 t (hd t ht).2).trans (put_ne _ _ _ _ (hd t ht).1)⟩
        | exit i => rw [done h]; exact ⟨rfl, fun _ _ => rfl⟩
        | ret => rw [done h]; exact ⟨rfl, fun _ _ => rfl⟩
        | pan u => rw [done h]; exact ⟨rfl, fun _ _ => rfl⟩
    simp only [evOps] at h
    split at h
    · exact hgo h
    · rename_i j want _
      split at h
      · cases h
      · rename_i d _
        split at h
        · rename_i b hb
          have e : s.put (some d) (.bool b) = s := put_same hb (by simp)
          simp only [real_part] at h
          cases b <;> cases want <;> simp only [cond_true, cond_false] at h <;> rw [e] at h
          · exact hgo h
          · exact hskip h
          · exact hskip h
          · exact hgo h
        · exact hskip h
        · cases h
theorem foldE_frame {ops : Array Oper} {base : Nat} : ∀ (l : List En) (d d' : DSt), foldE T env ops base l d = some d' →
    d'.1.tmps.length = d.1.tmps.length ∧ ∀ t, t ∉ ops.toList.filterMap (·.dst) → d'.1.tmps[t]? = d.1.tmps[t]?
  | [], d, d', h => by cases h; exact ⟨rfl, fun _ _ => rfl⟩
  | e :: r, d, d', h => by
    simp only [foldE] at h
    cases hs : stepE T env ops base e d with
    | none => rw [hs] at h; cases h
    | some t =>
      rw [hs] at h
      obtain ⟨o, x, v, h1, p, i1, _, _, _, rfl⟩ := stepE_some hs
      obtain ⟨h3, h4⟩ := foldE_frame r _ d' h
      have hm : ∀ t, t ∉ ops.toList.filterMap (·.dst) → o.dst ≠ some t := fun t ht e' => ht (List.mem_filterMap.2 ⟨o, by
        have := Array.mem_of_getElem? i1
        simpa using this, e'⟩)
      cases x with
      | normal => exact ⟨h3.trans (put_len ..), fun t ht => (h4 t ht).trans (put_ne _ _ _ _ (hm t ht))⟩
      | _ => exact ⟨h3, h4⟩
theorem stayI_frame (i : Nat) (s : AS) : (stayI i s).tmps.length = s.tmps.length ∧ ∀ t : Nat, (∀ i : Nat, s.tmps[t]? ≠ some (AVal.own i)) → (stayI i s).tmps[t]? = s.tmps[t]? := by
  unfold stayI
  split
  · rename_i wt e xs _
    split
    case isFalse => exact ⟨rfl, fun _ _ => rfl⟩
    split
    · refine ⟨by simp, fun t ht => ?_⟩
      show (s.tmps.map (roOf i e xs))[t]? = _
      rw [List.getElem?_map]
      cases hc : s.tmps[t]? with
      | none => rfl
      | some c =>
        cases c with
        | own j => exact absurd hc (ht j)
        | _ => rfl
    · exact ⟨rfl, fun _ _ => rfl⟩
  · exact ⟨rfl, fun _ _ => rfl⟩
theorem stayT_frame (d : Nat) (s : AS) : (stayT d s).tmps.length = s.tmps.length ∧ ∀ t : Nat, (∀ i : Nat, s.tmps[t]? ≠ some (AVal.own i)) → (stayT d s).tmps[t]? = s.tmps[t]? := by
  unfold stayT
  split
  · exact stayI_frame _ s
  · exact ⟨rfl, fun _ _ => rfl⟩
theorem stayL_frame : ∀ (l : List Nat) (s : AS), (stayL l s).tmps.length = s.tmps.length ∧ ∀ t : Nat, (∀ i : Nat, s.tmps[t]? ≠ some (AVal.own i)) → (stayL l s).tmps[t]? = s.tmps[t]?
  | [], s => ⟨rfl, fun _ _ => rfl⟩
  | o :: l, s => by
    have h0 := stayI_frame o s
    have h1 := stayL_frame l (stayI o s)
    refine ⟨h1.1.trans h0.1, fun t ht => ?_⟩
    have e := h0.2 t ht
    exact (h1.2 t (fun i hi => ht i (by rw [← e]; exact hi))).trans e
theorem stayR_frame : ∀ (l : List Oper) (s : AS), (stayR l s).tmps.length = s.tmps.length ∧ ∀ t : Nat, (∀ i : Nat, s.tmps[t]? ≠ some (AVal.own i)) → (stayR l s).tmps[t]? = s.tmps[t]?
  | [], s => ⟨rfl, fun _ _ => rfl⟩
  | o :: l, s => by
    have h0 : (stayO s o).tmps.length = s.tmps.length ∧ ∀ t : Nat, (∀ i : Nat, s.tmps[t]? ≠ some (AVal.own i)) → (stayO s o).tmps[t]? = s.tmps[t]? := by
      unfold stayO
      split
      · cases isAppO o.op
        · exact ⟨rfl, fun _ _ => rfl⟩
        · exact stayT_frame _ s
      · exact ⟨rfl, fun _ _ => rfl⟩
    have h1 := stayR_frame l (stayO s o)
    refine ⟨h1.1.trans h0.1, fun t ht => ?_⟩
    have e := h0.2 t ht
    exact (h1.2 t (fun i hi => ht i (by rw [← e]; exact hi))).trans e
theorem stayF_frame (ops : List Oper) (s : AS) : (stayF env ops s).tmps.length = s.tmps.length ∧ ∀ t : Nat, (∀ i : Nat, s.tmps[t]? ≠ some (AVal.own i)) → (stayF env ops s).tmps[t]? = s.tmps[t]? := by
  unfold stayF
  cases env.apz
  · cases env.frt
    · simp only [cond_false]
      cases env.sts
      · exact ⟨rfl, fun _ _ => rfl⟩
      · simp only [cond_true]
        unfold stayS
        cases ops.any isStoO
        · exact ⟨rfl, fun _ _ => rfl⟩
        · exact stayL_frame _ s
    · simp only [cond_true, cond_false]
      unfold stayQ
      cases ops.any isTryO
      · exact ⟨rfl, fun _ _ => rfl⟩
      · exact stayL_frame _ s
  · exact stayR_frame ops s
theorem stayK_frame {ds : List Nat} {ops : Array Oper} {s s1 s' : AS} {x : AExit} (hl : s1.tmps.length = s.tmps.length) (ht : ∀ t : Nat, t ∉ ds → s1.tmps[t]? = s.tmps[t]?) (h : stayK env ops pairE .normal s1 = some (x, s')) : Fr ds s x s' ∧ x = .normal := by
  simp only [stayK] at h
  cases h
  obtain ⟨f1, f2⟩ := stayF_frame (env := env) ops.toList s1
  refine ⟨⟨f1.trans hl, fun _ t h h' => ?_⟩, rfl⟩
  have e := ht t h
  exact (f2 t (fun i hi => h' i (by rw [← e]; exact hi))).trans e
theorem reg_frame (hE : EnvOk P env) {N id : Nat} {ops : Array Oper} {dr : Bool} {s : AS} {x : AExit} {s' : AS} (h : ev real T env N (.region id ops dr) s pairE = some (x, s')) : Fr (dstsOf (.region id ops dr)) s x s' ∧ (x = .normal ∨ ∃ v, x = .pan v) := by
  simp only [ev] at h
  cases dr with
  | false =>
    simp only [cond_false] at h
    rw [evOps_nat hE] at h
    cases hx : evOps real T env false ops ops.toList s pairE with
    | none => rw [hx] at h; cases h
    | some p =>
      obtain ⟨y, s1⟩ := p
      obtain ⟨h1, h2⟩ := evOps_frame hE false ops _ _ _ _ hx
      rw [hx] at h
      cases y with
      | normal => exact ⟨(stayK_frame h1 h2 h).1, .inl (stayK_frame h1 h2 h).2⟩
      | pan v => cases h; exact ⟨⟨h1, fun _ t ht _ => h2 t ht⟩, .inr ⟨_, rfl⟩⟩
      | exit i => cases h
      | ret => cases h
  | true =>
    simp only [cond_true, evRegion] at h
    obtain ⟨L, s2, pan, h1, h2, _⟩ := draw_spec (env := env.withHid (hidSet env s.heap.length ops.toList (waitsL ops.toList []) s)) (show EnvOk P _ from ⟨hE.fs, hE.cv⟩) _ _ _ _ 0 _ none [] _ rfl h
    obtain ⟨h3, h4⟩ := foldE_frame L _ _ h1
    cases pan with
    | none =>
      have h5 : stayK env ops pairE .normal { tmps := s2.tmps, heap := List.map unfreeB s2.heap } = some (x, s') := h2
      have h6 := stayK_frame (s := s) (ds := dstsOf (.region id ops true)) (s1 := { tmps := s2.tmps, heap := List.map unfreeB s2.heap }) h3 h4 h5
      exact ⟨h6.1, .inl h6.2⟩
    | some q =>
      cases h2
      exact ⟨⟨by simp, fun hx => by rcases hx with hx | ⟨_, hx⟩ <;> cases hx⟩, .inr ⟨_, rfl⟩⟩
theorem ev_frame (hE : EnvOk P env) (N : Nat) : ∀ (c : Code) (s : AS) (x : AExit) (s' : AS), ev real T env N c s pairE = some (x, s') → Fr (dstsOf c) s x s'
  | .skip, s, x, s', h => by cases h; exact .refl
  | .label _, s, x, s', h => by cases h; exact .refl
  | .region id ops dr, s, x, s', h => (reg_frame hE h).1
  | .seq a b, s, x, s', h => by
    simp only [ev] at h
    obtain ⟨y, s1, h1, h2⟩ := ev_pair hE h
    have fa := ev_frame hE N a s y s1 h1
    cases y with
    | normal =>
      have fb := ev_frame hE N b s1 x s' h2
      refine ⟨fb.len.trans fa.len, fun hx t ht ho => ?_⟩
      rcases dsts_seq a b with e | e
      · subst e
        simp only [ev, pairE, Option.some.injEq, Prod.mk.injEq] at h2
        rcases hx with hx | ⟨id, hx⟩ <;> rw [hx] at h2 <;> cases h2.1
      · rw [e, List.mem_append] at ht
        have e1 := fa.on (.inl rfl) t (fun hm => ht (.inl hm)) ho
        rw [fb.on hx t (fun hm => ht (.inr hm)) (by rw [e1]; exact ho), e1]
    | exit i =>
      cases h2
      refine ⟨fa.len, fun hx t ht ho => fa.on hx t (fun hm => ?_) ho⟩
      rcases dsts_seq a b with e | e
      · subst e
        cases a with
        | region id ops dr =>
          have := (reg_frame hE h1).2
          rcases this with e | ⟨_, e⟩ <;> cases e
        | _ => exact ht (List.mem_append.2 (.inl hm))
      · rw [e] at ht; exact ht (List.mem_append.2 (.inl hm))
    | ret => cases h2; exact ⟨fa.len, fun hx => by rcases hx with hx | ⟨_, hx⟩ <;> cases hx⟩
    | pan v => cases h2; exact ⟨fa.len, fun hx => by rcases hx with hx | ⟨_, hx⟩ <;> cases hx⟩
  | .cond c a b, s, x, s', h => by
    simp only [ev] at h
    split at h
    · rename_i t _
      simp only [real_part] at h
      cases t
      · have f := ev_frame hE N b s x s' h
        exact ⟨f.len, fun hx t ht ho => f.on hx t (fun hm => ht (List.mem_append.2 (.inr hm))) ho⟩
      · have f := ev_frame hE N a s x s' h
        exact ⟨f.len, fun hx t ht ho => f.on hx t (fun hm => ht (List.mem_append.2 (.inl hm))) ho⟩
    · cases h
  | .block id c, s, x, s', h => by
    simp only [ev] at h
    obtain ⟨y, s1, h1, h2⟩ := ev_pair hE h
    have f := ev_frame hE N c s y s1 h1
    cases y with
    | exit j =>
      simp only [pairE] at h2
      have : s' = s1 := by split at h2 <;> cases h2 <;> rfl
      subst this
      exact ⟨f.len, fun _ => f.on (.inr ⟨j, rfl⟩)⟩
    | _ => cases h2; exact f
  | .loop c, s, x, s', h => by
    simp only [ev] at h
    split at h
    · cases h
    · rename_i L hL
      split at h
      · cases h
      · rename_i x0 _
        obtain ⟨hd, hs, _⟩ := loopAt_spec hL
        obtain ⟨R, hi, hR⟩ := loop_some h
        rcases hR with ⟨id, y, rfl, h'⟩ | rfl
        · obtain ⟨_, h2⟩ := goOut_some _ h'
          cases h2
          refine ⟨state_tlen, fun _ t ht ho => state_other (by rw [hd, mem_dedup]; exact ht) fun hm => ?_⟩
          rcases hs t hm with hm | ⟨i, hi⟩
          · rw [hd, mem_dedup] at hm; exact ht hm
          · exact ho i (get_eq hi (by simp))
        · obtain ⟨y, hy⟩ := iterL_last _ _ hi
          obtain ⟨e, s1, h1, h2⟩ := ev_pair hE hy
          have f := ev_frame hE N c _ e s1 h1
          cases e with
          | normal =>
            simp only at h2
            split at h2 <;> cases h2
          | exit id =>
            simp only at h2
            split at h2
            · split at h2 <;> cases h2
            · cases h2
          | ret =>
            have : (x, s') = (AExit.ret, { s1 with heap := unlockH s.heap s1.heap }) := by simpa [real, finL, pairE] using h2.symm
            cases this
            exact ⟨f.len.trans state_tlen, fun hx => by rcases hx with hx | ⟨_, hx⟩ <;> cases hx⟩
          | pan v =>
            have : (x, s') = (AExit.pan v, { s1 with heap := unlockH s.heap s1.heap }) := by simpa [real, finL, pairE] using h2.symm
            cases this
            exact ⟨f.len.trans state_tlen, fun hx => by rcases hx with hx | ⟨_, hx⟩ <;> cases hx⟩
  | .exit id, s, x, s', h => by cases h; exact .refl
  | .ret, s, x, s', h => by cases h; exact .refl
  | .scope c, s, x, s', h => by
    simp only [ev] at h
    exact ev_frame hE N c s x s' h
  | .goto _, s, x, s', h => by cases h
  | .rangeFunc f ps asg bo, s, x, s', h => by
    simp only [ev] at h
    cases hr : hasRange asg || hasRange bo
    · rw [hr] at h
      simp only [cond_false] at h
      split at h
      case h_2 => cases h
      rename_i fid caps _
      rw [hE.cv.nat] at h
      cases hq : env.cv _ (.fn fid caps) [.yld s.heap.length] (s.heap ++ [.lp .ready none s.tmps ps.toList asg bo]) tripE with
      | none => rw [hq] at h; cases h
      | some p =>
        obtain ⟨y, v, hp⟩ := p
        rw [hq] at h
        simp only [Option.bind_some] at h
        have : s'.tmps = s.tmps := by
          cases y with
          | normal =>
            simp only at h
            split at h <;> first | cases h; rfl | cases h
          | pan v => cases h; rfl
          | ret => cases h
          | exit id => cases h
        exact ⟨by rw [this], fun _ t _ _ => by rw [this]⟩
    · rw [hr] at h; cases h
  | .refuse _, s, x, s', h => by cases h
end
end Go.Proofs.Ytcbfmkfmdcabmaa

namespace Go.Proofs.Ytcbfmkfmdcabmaa
open Go.RowKit
theorem BlkOk.move {n : Nat} {h g w h2 g2} {i : Nat} {b : ABlk} (o : BlkOk h g w i b) (hn : h.length ≤ n) (m : Moves n h g h2 g2) (hr : g2.ρ i = g.ρ i) : BlkOk h2 g2 w i b := by
  have mv : ∀ {v : AVal} {x : Value}, Rep h g w v x → Rep h2 g2 w v x := fun r => r.move (by
    have := r.bd
    exact Bd.more this hn) m
  cases b with
  | dead => trivial
  | free => trivial
  | box wr cs =>
    obtain ⟨b, arr, t, h1, h2, h3, h4⟩ := o
    exact ⟨b, arr, t, by rw [hr]; exact h1, h2, h3, fun j c x a b => ⟨(h4 j c x a b).1, mv (h4 j c x a b).2⟩⟩
  | row wr t e xs =>
    have o' : RowOk h g w (g.ρ i) t e xs := o
    show RowOk h2 g2 w (g2.ρ i) t e xs
    rw [hr]; exact o'.same m.m
  | lp st pend ts ps aw bo =>
    obtain ⟨l, arr, fn, D, h1, h2, h3, h4⟩ := o
    exact ⟨l, arr, fn, D, by rw [hr]; exact h1, h2, h3, fun j c x a b => mv (h4 j c x a b)⟩
structure Alike (h h2 : List ABlk) : Prop where
  len : h2.length = h.length
  blk : ∀ (i : Nat) b2, h2[i]? = some b2 → b2 = .dead ∨ ∃ b, h[i]? = some b ∧ lockB b = lockB b2
theorem lock_box {b b2 : ABlk} {wr cs} (h : lockB b = lockB b2) (e : b2 = .box wr cs) : ∃ wr', b = .box wr' cs := by
  subst e; exact lockB_box h
theorem lock_row {b b2 : ABlk} {wr t e xs} (h : lockB b = lockB b2) (e' : b2 = .row wr t e xs) : ∃ wr', b = .row wr' t e xs := by
  subst e'; exact lockB_row' h
theorem lock_lp {b b2 : ABlk} {st pend ts ps aw bo} (h : lockB b = lockB b2) (e : b2 = .lp st pend ts ps aw bo) : b = .lp st pend ts ps aw bo := by
  subst e; exact lockB_lp h
theorem Alike.here {h h2 : List ABlk} (a : Alike h h2) {i : Nat} (hi : Here h i) : Here h2 i := by
  obtain ⟨b, hb, hn⟩ := hi
  have hlt : i < h2.length := by rw [a.len]; exact (List.getElem?_eq_some_iff.1 hb).1
  refine ⟨_, List.getElem?_eq_getElem hlt, fun e => ?_⟩
  rcases a.blk i _ (List.getElem?_eq_getElem hlt) with e' | ⟨b', h1, h2⟩
  · rw [e] at e'; cases e'
  · rw [hb] at h1; cases h1
    rw [e] at h2
    exact hn (lockB_free h2)
theorem Alike.moves {h h2 : List ABlk} (a : Alike h h2) (g : Gh) : Moves h.length h g h2 g where
  len := by rw [a.len]; exact Nat.le_refl _
  here := fun i _ hi => a.here hi
  m := fun _ h => h
  box := fun i wr cs _ hi => by
    rcases a.blk i _ hi with e | ⟨b, h1, h2⟩
    · cases e
    · obtain ⟨wr', e⟩ := lock_box h2 rfl
      exact ⟨wr', cs, by rw [h1, e], rfl, rfl⟩
  row := fun i wr t e xs _ hi => by
    rcases a.blk i _ hi with e | ⟨b, h1, h2⟩
    · cases e
    · obtain ⟨wr', e⟩ := lock_row h2 rfl
      exact ⟨wr', xs, by rw [h1, e], rfl, rfl⟩
  lp := fun i st pend ts ps aw bo _ hi => by
    rcases a.blk i _ hi with e | ⟨b, h1, h2⟩
    · cases e
    · have e := lock_lp h2 rfl
      exact ⟨st, pend, by rw [h1, e], rfl⟩
theorem Alike.alive {h h2 : List ABlk} (a : Alike h h2) {i : Nat} (ha : alive h2 i) : alive h i := by
  obtain ⟨b2, h1, h3⟩ := ha
  rcases a.blk i b2 h1 with e | ⟨b, h4, h5⟩
  · exact absurd e h3
  · refine ⟨b, h4, fun e => h3 ?_⟩
    subst e
    cases b2 <;> first | rfl | cases h5
theorem Alike.rep {h h2 : List ABlk} (a : Alike h h2) {g w} {v : AVal} {x : Value} (r : Rep h g w v x) : Rep h2 g w v x := r.move r.bd (a.moves g)
theorem Alike.st {K h h2 g w} (a : Alike h h2) (s : St K h g w) : St K h2 g w where
  blk := fun i b2 hb => by
    rcases a.blk i b2 hb with e | ⟨b, h1, h2⟩
    · subst e; trivial
    · have := (s.blk i b h1).move (Nat.le_refl _) (a.moves g) rfl
      rw [← blk_lock, ← h2, blk_lock]; exact this
  inj := fun i j b hi hj => s.inj i j b (a.alive hi) (a.alive hj)
  sep := fun i b hi => s.sep i b (a.alive hi)
  low := s.low
  klow := s.klow
theorem Alike.trep {h h2 : List ABlk} (a : Alike h h2) {g w} {ts : List AVal} {tmps : Array Value} (t : TRep h g w ts tmps) : TRep h2 g w ts tmps :=
  ⟨t.1, fun j c x h1 h3 => a.rep (t.2 j c x h1 h3)⟩
theorem Alike.le {K h0 g0 w0 h h2 g w} (a : Alike h h2) (l : Le K h0 g0 w0 h g w) (hb : ∀ (i : Nat) cs, h0[i]? = some (.box false cs) → h[i]? = some (.box false cs) → h2[i]? = some (.box false cs))
    (hr : ∀ (i : Nat) t e xs, h0[i]? = some (.row false t e xs) → h[i]? = some (.row false t e xs) → h2[i]? = some (.row false t e xs)) : Le K h0 g0 w0 h2 g w where
  len := by rw [a.len]; exact l.len
  here := fun i hi => a.here (l.here i hi)
  m := l.m
  new := l.new
  mw := l.mw
  k := l.k
  box := fun i wr cs' hi h => by
    obtain ⟨wr1, cs1, h1, h2, _⟩ := (a.moves g).box i wr cs' (Nat.lt_of_lt_of_le hi.lt l.len) h
    obtain ⟨wr2, cs2, h4, h5, h6⟩ := l.box i wr1 cs1 hi h1
    exact ⟨wr2, cs2, h4, by omega, h6⟩
  row := fun i wr t e xs' hi h => by
    obtain ⟨wr1, cs1, h1, h2, _⟩ := (a.moves g).row i wr t e xs' (Nat.lt_of_lt_of_le hi.lt l.len) h
    obtain ⟨wr2, cs2, h4, h5, h6⟩ := l.row i wr1 t e cs1 hi h1
    exact ⟨wr2, cs2, h4, fun h0 => by have := h5 h0; omega, h6⟩
  lp := fun i st pend ts ps aw bo hi h => by
    obtain ⟨st1, p1, h1, _⟩ := (a.moves g).lp i st pend ts ps aw bo (Nat.lt_of_lt_of_le hi.lt l.len) h
    exact l.lp i st1 p1 ts ps aw bo hi h1
  lockb := fun i cs h => hb i cs h (l.lockb i cs h)
  lockr := fun i t e xs h => hr i t e xs h (l.lockr i t e xs h)
  os := l.os
  tape := l.tape
  output := l.output
  size := l.size
theorem unlock_lock (b0 b : ABlk) : lockB b = lockB (unlockB b0 b) := by
  unfold unlockB
  split <;> rfl
theorem unlockH_get : ∀ (h0 h : List ABlk) (i : Nat), (unlockH h0 h)[i]? = (h[i]?).map fun b => match h0[i]? with | some b0 => unlockB b0 b | none => b
  | [], h, i => by
    have : unlockH [] h = h := by cases h <;> rfl
    rw [this]
    simp
  | b0 :: h0, [], i => by simp [unlockH]
  | b0 :: h0, b :: h, i => by
    cases i with
    | zero => simp [unlockH]
    | succ i => simp only [unlockH, List.getElem?_cons_succ]; exact unlockH_get h0 h i
theorem unlockH_length : ∀ (h0 h : List ABlk), (unlockH h0 h).length = h.length
  | [], h => by cases h <;> rfl
  | _ :: _, [] => rfl
  | b0 :: h0, b :: h => by simp [unlockH, unlockH_length h0 h]
theorem unlock_alike (h0 h : List ABlk) : Alike h (unlockH h0 h) where
  len := unlockH_length h0 h
  blk := fun i b2 hb => by
    rw [unlockH_get] at hb
    cases hx : h[i]? with
    | none => rw [hx] at hb; cases hb
    | some b =>
      rw [hx] at hb
      simp only [Option.map_some, Option.some.injEq] at hb
      refine .inr ⟨b, rfl, ?_⟩
      subst hb
      split
      · exact unlock_lock _ _
      · rfl
theorem unlock_le {K h0 g0 w0 h g w} (l : Le K h0 g0 w0 h g w) : Le K h0 g0 w0 (unlockH h0 h) g w :=
  (unlock_alike h0 h).le l (fun i cs h1 h2 => by rw [unlockH_get, h1, h2]; rfl) (fun i t e xs h1 h2 => by rw [unlockH_get, h1, h2]; rfl)
theorem dropH_get (keep : List Nat) (n : Nat) : ∀ (h : List ABlk) (k i : Nat), (dropH keep n k h)[i]? = (h[i]?).map fun b => if k + i < n || keep.contains (k + i) then b else .dead
  | [], k, i => by simp [dropH]
  | b :: h, k, i => by
    cases i with
    | zero => simp [dropH]
    | succ i =>
      simp only [dropH, List.getElem?_cons_succ]
      rw [dropH_get keep n h (k + 1) i, Nat.add_assoc, Nat.add_comm 1 i]
theorem dropH_length (keep : List Nat) (n : Nat) : ∀ (h : List ABlk) (k : Nat), (dropH keep n k h).length = h.length
  | [], k => rfl
  | b :: h, k => by simp [dropH, dropH_length keep n h]
theorem drop_alike (keep : List Nat) (n : Nat) (h : List ABlk) : Alike h (dropH keep n 0 h) where
  len := dropH_length keep n h 0
  blk := fun i b2 hb => by
    rw [dropH_get] at hb
    cases hx : h[i]? with
    | none => rw [hx] at hb; cases hb
    | some b =>
      rw [hx] at hb
      simp only [Option.map_some, Option.some.injEq] at hb
      split at hb
      · subst hb; exact .inr ⟨b, rfl, rfl⟩
      · exact .inl hb.symm
theorem drop_le {K h0 g0 w0 h g w} (keep : List Nat) (l : Le K h0 g0 w0 h g w) : Le K h0 g0 w0 (dropH keep h0.length 0 h) g w := by
  have key : ∀ (i : Nat) b, h0[i]? = some b → h[i]? = some b → (dropH keep h0.length 0 h)[i]? = some b := fun i b h1 h2 => by
    have hi := (List.getElem?_eq_some_iff.1 h1).1
    rw [dropH_get, h2]
    simp [hi]
  exact (drop_alike keep _ h).le l (fun i cs h1 h2 => key i _ h1 h2) (fun i t e xs h1 h2 => key i _ h1 h2)
theorem Le.less {K K' : Nat → Prop} {h g w h' g' w'} (l : Le K' h g w h' g' w') (hk : ∀ b, K b → K' b) : Le K h g w h' g' w' where
  len := l.len
  here := l.here
  m := l.m
  new := fun b hb => (l.new b hb).imp id fun h hk' => h (hk b hk')
  mw := l.mw
  k := fun b hb => l.k b (hk b hb)
  box := l.box
  row := l.row
  lp := l.lp
  lockb := l.lockb
  lockr := l.lockr
  os := l.os
  tape := l.tape
  output := l.output
  size := l.size
theorem St.less {K K' : Nat → Prop} {h g w} (s : St K' h g w) (hk : ∀ b, K b → K' b) : St K h g w where
  blk := s.blk
  inj := s.inj
  sep := fun i b ha hb => let ⟨h1, h2, h3⟩ := s.sep i b ha hb; ⟨fun h => h1 (hk b h), h2, h3⟩
  low := s.low
  klow := fun b hb => s.klow b (hk b hb)
theorem le_turn {K h g} {w w' : World} (s : St K h g w) {i b : Nat} {st pend ts ps aw bo} {nb : ABlk} (hi : h[i]? = some (.lp st pend ts ps aw bo)) (hρ : blockOf (g.ρ i) = some b)
    (hw : ∀ n, n ≠ b → w'.heap[n]? = w.heap[n]?) (hos : w'.os = w.os) (htape : w'.tape = w.tape) (hout : w'.output = w.output) (hsz : w'.heap.size = w.heap.size)
    (hnb : nb = .dead ∨ ∃ st1 p1, nb = .lp st1 p1 ts ps aw bo) : Le K h g w (h.set i nb) g w' where
  len := by simp
  here := here_set hi (by rcases hnb with e | ⟨_, _, e⟩ <;> rw [e] <;> simp)
  m := fun _ h => h
  new := fun _ h => .inl h
  mw := fun n hn => hw n fun e => by subst e; exact (s.sep i n ⟨_, hi, by simp⟩ hρ).2.1 hn
  k := fun n hn => hw n fun e => by subst e; exact (s.sep i n ⟨_, hi, by simp⟩ hρ).1 hn
  box := fun j wr cs' _ h' => by
    rcases set_get h' with ⟨rfl, e, _⟩ | ⟨_, e⟩
    · rcases hnb with e' | ⟨_, _, e'⟩ <;> rw [e'] at e <;> cases e
    · exact ⟨wr, cs', e, rfl, rfl⟩
  row := fun j wr t e xs' _ h' => by
    rcases set_get h' with ⟨rfl, e, _⟩ | ⟨_, e⟩
    · rcases hnb with e' | ⟨_, _, e'⟩ <;> rw [e'] at e <;> cases e
    · exact ⟨wr, xs', e, fun _ => rfl, rfl⟩
  lp := fun j st2 p2 ts2 ps2 as2 bo2 _ h' => by
    rcases set_get h' with ⟨rfl, e, _⟩ | ⟨_, e⟩
    · rcases hnb with e' | ⟨_, _, e'⟩
      · rw [e'] at e; cases e
      · rw [e'] at e; cases e; exact ⟨_, _, hi, rfl⟩
    · exact ⟨st2, p2, e, rfl⟩
  lockb := fun j cs h' => by
    have : i ≠ j := fun e => by subst e; rw [hi] at h'; cases h'
    rw [List.getElem?_set, if_neg this]; exact h'
  lockr := fun j t e xs h' => by
    have : i ≠ j := fun e => by subst e; rw [hi] at h'; cases h'
    rw [List.getElem?_set, if_neg this]; exact h'
  os := hos
  tape := htape
  output := hout
  size := by rw [hsz]; exact Nat.le_refl _
theorem keeps_turn {K h g} {w w' : World} (s : St K h g w) {i b : Nat} (ha : alive h i) (hρ : blockOf (g.ρ i) = some b) (hw : ∀ n, n ≠ b → w'.heap[n]? = w.heap[n]?) :
    ∀ j n, j ≠ i → alive h j → blockOf (g.ρ j) = some n → w'.heap[n]? = w.heap[n]? := fun j n hj hja hn =>
  hw n fun e => by subst e; exact hj (s.inj j i n hja ha hn hρ)
theorem lp_set {K h g w} (s : St K h g w) {i : Nat} {st pend ts ps aw bo} (hi : h[i]? = some (.lp st pend ts ps aw bo)) (st1 : LoopState) (p1 : Option Code) :
    ∃ l r, g.ρ i = .func (.yield l) #[] #[] ∧ w.heap[l]? = some (.loop r) ∧ r.state = st ∧ r.pending = pend ∧ r.params = ps.toArray ∧ r.assign = aw ∧ r.body = bo ∧ TRep h g w ts r.tmps ∧
      Le K h g w (h.set i (.lp st1 p1 ts ps aw bo)) g (w.putObj l (.loop { r with state := st1, pending := p1 })) ∧
      St K (h.set i (.lp st1 p1 ts ps aw bo)) g (w.putObj l (.loop { r with state := st1, pending := p1 })) := by
  obtain ⟨l, arr, fn, D, h1, h2, h3, h4⟩ := s.blk i _ hi
  have hρ : blockOf (g.ρ i) = some l := by rw [h1]; rfl
  have ha : alive h i := ⟨_, hi, by simp⟩
  have hl : l < w.heap.size := (Array.getElem?_eq_some_iff.1 h2).1
  have hw : ∀ n, n ≠ l → ∀ o, (w.putObj l o).heap[n]? = w.heap[n]? := fun n hn o => World.putObj_heap_other hn
  refine ⟨l, _, h1, h2, rfl, rfl, rfl, rfl, rfl, ⟨h3.symm, h4⟩, ?_⟩
  have lq := le_turn (w' := w.putObj l (.loop { state := st1, pending := p1, fn, tmps := arr, params := ps.toArray, assign := aw, body := bo, defers := D })) s hi hρ (fun n hn => hw n hn _) rfl rfl rfl World.putObj_size (.inr ⟨st1, p1, rfl⟩)
  refine ⟨lq, s.turn i _ lq ha (keeps_turn s ha hρ fun n hn => hw n hn _) ⟨l, arr, fn, D, h1, World.putObj_heap_same hl, h3, fun j c x a b => (h4 j c x a b).mono lq⟩⟩
theorem lp_drop {K h g w} (s : St K h g w) {i : Nat} {st pend ts ps aw bo} (hi : h[i]? = some (.lp st pend ts ps aw bo)) {l : Nat} (hρ : blockOf (g.ρ i) = some l) (w' : World)
    (hw : ∀ n, n ≠ l → w'.heap[n]? = w.heap[n]?) (hos : w'.os = w.os) (htape : w'.tape = w.tape) (hout : w'.output = w.output) (hsz : w'.heap.size = w.heap.size) :
    Le K h g w (h.set i .dead) g w' ∧ St K (h.set i .dead) g w' := by
  have ha : alive h i := ⟨_, hi, by simp⟩
  have lq := le_turn (w' := w') s hi hρ hw hos htape hout hsz (.inl rfl)
  exact ⟨lq, s.turn i _ lq ha (keeps_turn s ha hρ hw) trivial⟩
theorem lpsOf_spec : ∀ (h : List ABlk) (n : Nat) (l : List (Nat × LoopState)), lpsOf h n = some l → ∀ (i : Nat) st pend ts ps aw bo, h[i]? = some (.lp st pend ts ps aw bo) → pend = none ∧ (n + i, st) ∈ l
  | [], n, l, _, i, _, _, _, _, _, _, hi => by simp at hi
  | b :: r, n, l, h, i, st, pend, ts, ps, aw, bo, hi => by
    have tail : ∀ l', lpsOf r (n + 1) = some l' → (∀ p ∈ l', p ∈ l) → ∀ j, r[j]? = some (.lp st pend ts ps aw bo) → pend = none ∧ (n + (j + 1), st) ∈ l := fun l' h' hs j hj => by
      obtain ⟨e1, e2⟩ := lpsOf_spec r (n + 1) l' h' j st pend ts ps aw bo hj
      refine ⟨e1, hs _ ?_⟩
      rw [show n + (j + 1) = n + 1 + j by omega]; exact e2
    cases b with
    | lp st' pend' ts' ps' as' bo' =>
      cases pend' with
      | some c => simp [lpsOf] at h
      | none =>
        simp only [lpsOf] at h
        split at h
        · rename_i l' h'
          cases h
          cases i with
          | zero =>
            simp only [List.getElem?_cons_zero, Option.some.injEq] at hi
            cases hi
            exact ⟨rfl, by simp⟩
          | succ i => exact tail l' h' (fun p hp => List.mem_cons_of_mem _ hp) i (by simpa using hi)
        · cases h
    | free => simp [lpsOf] at h
    | dead | box | row =>
      simp only [lpsOf] at h
      cases i with
      | zero => simp at hi
      | succ i => exact tail l h (fun p hp => hp) i (by simpa using hi)
theorem lpsOf_free : ∀ (h : List ABlk) (n : Nat) (l : List (Nat × LoopState)), lpsOf h n = some l → ∀ (i : Nat), h[i]? ≠ some .free
  | [], n, l, _, i => by simp
  | b :: r, n, l, h, i => by
    have tail : ∀ l', lpsOf r (n + 1) = some l' → ∀ j : Nat, r[j]? ≠ some ABlk.free := fun l' h' => lpsOf_free r (n + 1) l' h'
    cases b with
    | free => simp [lpsOf] at h
    | lp st pend ts ps aw bo =>
      cases pend with
      | some c => simp [lpsOf] at h
      | none =>
        simp only [lpsOf] at h
        split at h
        · rename_i l' h'
          cases i with
          | zero => simp
          | succ i => simpa using tail l' h' i
        · cases h
    | dead | box | row =>
      simp only [lpsOf] at h
      cases i with
      | zero => simp
      | succ i => simpa using tail l h i
theorem lpsB_get {h : List ABlk} {l : List (Nat × LoopState)} (hb : lpsB h l = true) {i : Nat} {st : LoopState} (hm : (i, st) ∈ l) : ∃ ts ps aw bo, h[i]? = some (.lp st none ts ps aw bo) := by
  have := List.all_eq_true.1 hb _ hm
  simp only at this
  split at this
  · rename_i st' ts ps aw bo hh
    have e : st' = st := by simpa using this
    subst e
    exact ⟨ts, ps, aw, bo, getD_some (by simp) hh⟩
  · cases this
theorem exRws_mem {X : Type} {h : List ABlk} : ∀ (r : List (Nat × TypeId × Sh)) (o : Option X) (z : rwsTy r X), exRws h r o = some z → ∀ p ∈ r, ∃ t e, ∃ xs : List e.ty, h[p.1]? = some (.row true t e xs)
  | [], _, _, _, p, hp => by simp at hp
  | q :: r, o, z, hx, p, hp => by
    simp only [exRws] at hx
    split at hx
    · cases hx
    · rename_i xs hxs
      split at hx
      · cases hx
      · rename_i y hy
        rcases List.mem_cons.1 hp with e | e
        · subst e; exact ⟨_, _, _, exRow_spec hxs⟩
        · exact exRws_mem r o y hy p e
theorem ex_rws {L : LoopAt} {s : AS} {z : L.ty} (hx : L.ex s = some z) : ∀ p ∈ L.rws, ∃ t e, ∃ xs : List e.ty, s.heap[p.1]? = some (.row true t e xs) := by
  unfold LoopAt.ex at hx
  split at hx
  · exact exRws_mem _ _ _ hx
  · cases hx
end Go.Proofs.Ytcbfmkfmdcabmaa

namespace Go.Proofs.Ytcbfmkfmdcabmaa
open Go.RowKit
def KHid (K : Nat → Prop) (ms : List Nat) (h : List ABlk) (g : Gh) (b : Nat) : Prop := K b ∨ ∃ n, ms.contains n = true ∧ alive h n ∧ blockOf (g.ρ n) = some b
theorem hide_cases (ms ls : List Nat) {h : List ABlk} {i : Nat} {b : ABlk} (e : (hideH ms ls h)[i]? = some b) : ∃ b0, h[i]? = some b0 ∧ ((ms.contains i = true ∧ b = .dead) ∨ (ms.contains i = false ∧ (b = b0 ∨ ∃ wr cs, b0 = .box wr cs ∧ b = .box false cs))) := by
  rw [hideH_get] at e
  cases hx : h[i]? with
  | none => rw [hx] at e; cases e
  | some b0 =>
    rw [hx, Option.map_some] at e
    cases e
    refine ⟨b0, rfl, ?_⟩
    unfold hideB
    cases hm : ms.contains i
    · refine .inr ⟨rfl, ?_⟩
      rw [cond_false]
      cases ls.contains i
      · exact .inl rfl
      · rw [cond_true]
        cases b0 with
        | box wr cs => exact .inr ⟨wr, cs, rfl, rfl⟩
        | _ => exact .inl rfl
    · exact .inl ⟨rfl, rfl⟩
theorem hide_here {ms ls : List Nat} {h : List ABlk} {i : Nat} (a : Here h i) : Here (hideH ms ls h) i := by
  obtain ⟨b, hb, hn⟩ := a
  refine ⟨hideB ms ls i b, by rw [hideH_get, hb]; rfl, ?_⟩
  unfold hideB
  cases ms.contains i
  · cases ls.contains i
    · exact hn
    · cases b <;> first | exact hn | simp [lockX]
  · simp
theorem rep_hide {ms ls : List Nat} {h : List ABlk} {g : Gh} {w : World} {v : AVal} {x : Value} (r : Rep h g w v x) : Rep (hideH ms ls h) g w v x := by
  induction r with
  | any v => exact .any v
  | undef => exact .undef
  | int k n => exact .int k n
  | bool b => exact .bool b
  | str s => exact .str s
  | agg cs arr hl _ ih => exact .agg cs arr hl ih
  | nils => exact .nils
  | ro0 e p c hc hc' => exact .ro0 e p c hc hc'
  | ro1 e xs b o c us h0 h1 h2 hm hc _ ih => exact .ro1 e xs b o c us h0 h1 h2 hm hc ih
  | rp cs b o us hm hc _ ih => exact .rp cs b o us hm hc ih
  | own i v hi h1 hv =>
    refine .own i v (hide_here hi) h1 fun wr t e xs hx => ?_
    obtain ⟨b0, hb, h | ⟨_, h | ⟨_, _, _, h⟩⟩⟩ := hide_cases ms ls hx
    · cases h.2
    · subst h; exact hv _ _ _ _ hb
    · cases h
  | op i off v hi h1 hv =>
    refine .op i off v (hide_here hi) h1 fun wr cs hx => ?_
    obtain ⟨b0, hb, h | ⟨_, h | ⟨wr', cs', h', h⟩⟩⟩ := hide_cases ms ls hx
    · cases h.2
    · subst h; exact hv _ _ hb
    · cases h; subst h'; exact hv _ _ hb
  | oe i ix off v hi h1 hv =>
    refine .oe i ix off v (hide_here hi) h1 fun wr t e xs hx h0 => ?_
    obtain ⟨b0, hb, h | ⟨_, h | ⟨_, _, _, h⟩⟩⟩ := hide_cases ms ls hx
    · cases h.2
    · subst h; exact hv _ _ _ _ hb h0
    · cases h
  | fn f caps arr hl _ ih => exact .fn f caps arr hl ih
  | tup cs arr hl _ ih => exact .tup cs arr hl ih
  | ifc t c x _ ih => exact .ifc t c x ih
  | nilif => exact .nilif
  | nilfn => exact .nilfn
  | nilmp => exact .nilmp
  | nilpt => exact .nilpt
  | yld i v hi h1 hv =>
    refine .yld i v (hide_here hi) h1 fun st pend tmps ps aw bo hx => ?_
    obtain ⟨b0, hb, h | ⟨_, h | ⟨_, _, _, h⟩⟩⟩ := hide_cases ms ls hx
    · cases h.2
    · subst h; exact hv _ _ _ _ _ _ hb
    · cases h
theorem hide_st {K : Nat → Prop} {ms ls : List Nat} {h : List ABlk} {g : Gh} {w : World} (s : St K h g w) : St (KHid K ms h g) (hideH ms ls h) g w where
  blk := fun i b hb => by
    obtain ⟨b0, h0, ⟨_, e⟩ | ⟨_, e | ⟨wr, cs, e0, e⟩⟩⟩ := hide_cases ms ls hb
    · subst e; trivial
    · subst e
      have o := s.blk i b h0
      cases b with
      | dead => trivial
      | free => trivial
      | box wr cs =>
        obtain ⟨n, arr, t, h1, h2, h3, h4⟩ := o
        exact ⟨n, arr, t, h1, h2, h3, fun j c x a b => ⟨(h4 j c x a b).1, rep_hide (h4 j c x a b).2⟩⟩
      | row wr t e xs => exact RowOk.same o fun _ h => h
      | lp st pend ts ps aw bo =>
        obtain ⟨l, arr, fn, D, h1, h2, h3, h4⟩ := o
        exact ⟨l, arr, fn, D, h1, h2, h3, fun j c x a b => rep_hide (h4 j c x a b)⟩
    · subst e; subst e0
      obtain ⟨n, arr, t, h1, h2, h3, h4⟩ := s.blk i _ h0
      exact ⟨n, arr, t, h1, h2, h3, fun j c x a b => ⟨(h4 j c x a b).1, rep_hide (h4 j c x a b).2⟩⟩
  inj := fun i j b hi hj h1 h2 => by
    have al : ∀ i, alive (hideH ms ls h) i → alive h i := fun i hi => by
      obtain ⟨b, hb, hd⟩ := hi
      obtain ⟨b0, h0, ⟨_, e⟩ | ⟨_, e | ⟨wr, cs, e0, e⟩⟩⟩ := hide_cases ms ls hb
      · exact absurd e hd
      · subst e; exact ⟨b, h0, hd⟩
      · subst e0; exact ⟨_, h0, by simp⟩
    exact s.inj i j b (al i hi) (al j hj) h1 h2
  sep := fun i b hi hb => by
    obtain ⟨bb, hbb, hd⟩ := hi
    have key : alive h i ∧ ms.contains i = false := by
      obtain ⟨b0, h0, ⟨_, e⟩ | ⟨hm, e | ⟨wr, cs, e0, e⟩⟩⟩ := hide_cases ms ls hbb
      · exact absurd e hd
      · subst e; exact ⟨⟨bb, h0, hd⟩, hm⟩
      · subst e0; exact ⟨⟨_, h0, by simp⟩, hm⟩
    obtain ⟨z1, z2, z3⟩ := s.sep i b key.1 hb
    refine ⟨fun hk => ?_, z2, z3⟩
    rcases hk with hk | ⟨n, hn, ha, hnb⟩
    · exact z1 hk
    · have := s.inj i n b key.1 ha hb hnb
      subst this
      rw [key.2] at hn; cases hn
  low := s.low
  klow := fun b hk => by
    rcases hk with hk | ⟨n, _, ha, hb⟩
    · exact s.klow b hk
    · exact (s.sep n b ha hb).2.2
def NoM (ms : List Nat) (v : AVal) : Prop := ms = [] ∨ ∃ n, noN ms n v = true
theorem NoM.part {ms : List Nat} {v c : AVal} (h : NoM ms v) (hp : ∀ n, noN ms (n + 1) v = true → noN ms n c = true) : NoM ms c := by
  rcases h with h | ⟨n, h⟩
  · exact .inl h
  · cases n with
    | zero => cases h
    | succ n => exact .inr ⟨n, hp n h⟩
theorem NoM.off {ms : List Nat} {v : AVal} {i : Nat} (h : NoM ms v) (hp : ∀ n, noN ms (n + 1) v = true → ms.contains i = false) : ms.contains i = false := by
  rcases h with h | ⟨n, h⟩
  · subst h; rfl
  · cases n with
    | zero => cases h
    | succ n => exact hp n h
section
variable {K : Nat → Prop} {ms ls : List Nat} {h h1 : List ABlk} {g g1 : Gh} {w w1 : World}
theorem show_cases (oh : okH ms ls h = true) (hl : h.length ≤ h1.length) (lk : ∀ (i : Nat) (cs : List AVal), (hideH ms ls h)[i]? = some (ABlk.box false cs) → h1[i]? = some (ABlk.box false cs)) (i : Nat) :
    (ms.contains i = true ∧ i < h.length ∧ (showH ms ls h h1)[i]? = h[i]?) ∨ (ms.contains i = false ∧ ((showH ms ls h h1)[i]? = h1[i]? ∨ ∃ (wr : Bool) (cs : List AVal), h[i]? = some (ABlk.box wr cs) ∧ h1[i]? = some (ABlk.box false cs) ∧ (showH ms ls h h1)[i]? = some (ABlk.box wr cs))) := by
  have hlt : (ms.contains i || ls.contains i) = true → i < h.length := fun e => okH_lt oh e
  cases hm : ms.contains i
  · refine .inr ⟨rfl, ?_⟩
    cases hs : ls.contains i
    · left
      rw [showH_get, hm, hs]
      cases h1[i]? <;> rfl
    · obtain ⟨⟨wr, cs, hb⟩, _⟩ := okH_box oh hs
      right
      have hh : (hideH ms ls h)[i]? = some (.box false cs) := by
        rw [hideH_get, hb]
        simp only [Option.map_some, hideB, hm, hs, cond_false, cond_true, lockX]
      refine ⟨wr, cs, hb, lk i cs hh, ?_⟩
      rw [showH_get, lk i cs hh, hm, hs, Option.map_some, Bool.or_true, cond_true, List.getD_eq_getElem?_getD, hb]
      rfl
  · have := hlt (by rw [hm]; rfl)
    refine .inl ⟨rfl, this, ?_⟩
    rw [showH_get, List.getElem?_eq_getElem (show i < h1.length by omega), hm, Option.map_some, Bool.true_or, cond_true, List.getD_eq_getElem?_getD, List.getElem?_eq_getElem this]
    rfl
theorem hide_post (s : St K h g w) (oh : okH ms ls h = true) (hl : h.length ≤ h1.length) (nb : ∀ i b, ms.contains i = false → h1[i]? = some b → ms = [] ∨ noNB ms b = true)
    (s1 : St (KHid K ms h g) h1 g1 w1) (l : Le (KHid K ms h g) (hideH ms ls h) g w h1 g1 w1) :
    ∃ g2, St K (showH ms ls h h1) g2 w1 ∧ Le K h g w (showH ms ls h h1) g2 w1 ∧ ∀ v x, NoM ms v → Rep h1 g1 w1 v x → Rep (showH ms ls h h1) g2 w1 v x := by
  let g2 : Gh := ⟨fun i => if ms.contains i = true then g.ρ i else g1.ρ i, g1.M⟩
  have gm : ∀ i, ms.contains i = true → g2.ρ i = g.ρ i := fun i hi => if_pos hi
  have gn : ∀ i, ms.contains i = false → g2.ρ i = g1.ρ i := fun i hi => if_neg (by rw [hi]; simp)
  have sc := show_cases (h1 := h1) oh hl l.lockb
  have rep2 : ∀ v x, NoM ms v → Rep h1 g1 w1 v x → Rep (showH ms ls h h1) g2 w1 v x := by
    intro v x hn r
    have hereS : ∀ i, ms.contains i = false → Here h1 i → Here (showH ms ls h h1) i := fun i hi hh => by
      obtain ⟨b, hb, hf⟩ := hh
      rcases sc i with ⟨e, _⟩ | ⟨_, e | ⟨wr, cs, _, _, e⟩⟩
      · rw [hi] at e; cases e
      · exact ⟨b, e.trans hb, hf⟩
      · exact ⟨_, e, by simp⟩
    have sl : ∀ {b : Bool}, (!b) = true → b = false := fun {b} hb => by cases b <;> first | rfl | cases hb
    induction r with
    | any v => exact .any v
    | undef => exact .undef
    | int k n => exact .int k n
    | bool b => exact .bool b
    | str s => exact .str s
    | agg cs arr hl' hx ih => exact .agg cs arr hl' fun j c x a b => ih j c x a b (hn.part fun n hh => List.all_eq_true.1 (show cs.all (noN ms n) = true from hh) c (List.mem_of_getElem? a))
    | nils => exact .nils
    | ro0 e p c hc hc' => exact .ro0 e p c hc hc'
    | ro1 e xs b o c us h0 h1' h2 hm hc hx ih =>
      exact .ro1 e xs b o c us h0 h1' h2 hm hc fun n x j cc a a' => rep_pure0 (hx n x j cc a a') (Sh.cells_pure e x cc (List.mem_of_getElem? a')) fun _ h => h
    | rp cs b o us hm hc hx ih =>
      rcases hn with hn | ⟨n, hn⟩
      · exact .rp cs b o us hm hc fun j c a => ih j c a (.inl hn)
      · cases n <;> cases hn
    | own i v hi h1' hv =>
      have hi' := hn.off (i := i) fun n hh => sl hh
      refine .own i v (hereS i hi' hi) h1' fun wr t e xs hx => ?_
      rw [gn i hi']
      rcases sc i with ⟨e, _⟩ | ⟨_, e | ⟨wr, cs, _, _, e⟩⟩
      · rw [hi'] at e; cases e
      · exact hv _ _ _ _ (e.symm.trans hx)
      · rw [e] at hx; cases hx
    | op i off v hi h1' hv =>
      have hi' := hn.off (i := i) fun n hh => sl hh
      refine .op i off v (hereS i hi' hi) h1' fun wr cs hx => ?_
      rw [gn i hi']
      rcases sc i with ⟨e, _⟩ | ⟨_, e | ⟨wr, cs, _, e0, e⟩⟩
      · rw [hi'] at e; cases e
      · exact hv _ _ (e.symm.trans hx)
      · exact hv _ _ e0
    | oe i ix off v hi h1' hv =>
      have hi' := hn.off (i := i) fun n hh => sl hh
      refine .oe i ix off v (hereS i hi' hi) h1' fun wr t e xs hx h0 => ?_
      rw [gn i hi']
      rcases sc i with ⟨e, _⟩ | ⟨_, e | ⟨wr, cs, _, _, e⟩⟩
      · rw [hi'] at e; cases e
      · exact hv _ _ _ _ (e.symm.trans hx) h0
      · rw [e] at hx; cases hx
    | fn f caps arr hl' hx ih => exact .fn f caps arr hl' fun j c x a b => ih j c x a b (hn.part fun n hh => List.all_eq_true.1 (show caps.all (noN ms n) = true from hh) c (List.mem_of_getElem? a))
    | tup cs arr hl' hx ih => exact .tup cs arr hl' fun j c x a b => ih j c x a b (hn.part fun n hh => List.all_eq_true.1 (show cs.all (noN ms n) = true from hh) c (List.mem_of_getElem? a))
    | ifc t c x hx ih => exact .ifc t c x (ih (hn.part fun n hh => hh))
    | nilif => exact .nilif
    | nilfn => exact .nilfn
    | nilmp => exact .nilmp
    | nilpt => exact .nilpt
    | yld i v hi h1' hv =>
      rcases hn with hn | ⟨n, hn⟩
      · have hi' : ms.contains i = false := by rw [hn]; rfl
        refine .yld i v (hereS i hi' hi) h1' fun st pend tmps ps aw bo hx => ?_
        rw [gn i hi']
        rcases sc i with ⟨e, _⟩ | ⟨_, e | ⟨wr, cs, _, _, e⟩⟩
        · rw [hi'] at e; cases e
        · exact hv _ _ _ _ _ _ (e.symm.trans hx)
        · rw [e] at hx; cases hx
      · cases n <;> cases hn
  -- which blocks live
  have cls : ∀ i, alive (showH ms ls h h1) i → (ms.contains i = true ∧ alive h i) ∨ (ms.contains i = false ∧ alive h1 i) := fun i hi => by
    obtain ⟨b, hb, hd⟩ := hi
    rcases sc i with ⟨e, _, e1⟩ | ⟨e, e1 | ⟨wr, cs, _, e0, e1⟩⟩
    · exact .inl ⟨e, b, e1.symm.trans hb, hd⟩
    · exact .inr ⟨e, b, e1.symm.trans hb, hd⟩
    · exact .inr ⟨e, _, e0, by simp⟩
  have le : Le K h g w (showH ms ls h h1) g2 w1 := {
    len := by unfold showH; rw [hid_len]; exact hl
    here := fun i hi => by
      obtain ⟨b, hb, hf⟩ := l.here i (hide_here hi)
      rcases sc i with ⟨e, _, e1⟩ | ⟨e, e1 | ⟨wr, cs, _, e0, e1⟩⟩
      · obtain ⟨b', hb', hf'⟩ := hi
        exact ⟨b', e1.trans hb', hf'⟩
      · exact ⟨b, e1.trans hb, hf⟩
      · exact ⟨_, e1, by simp⟩
    m := l.m
    new := fun b hb => (l.new b hb).elim .inl fun hk => .inr fun hh => hk (.inl hh)
    mw := l.mw
    k := fun b hk => l.k b (.inl hk)
    box := fun i wr cs' hi hx => by
      rcases sc i with ⟨e, _, e1⟩ | ⟨e, e1 | ⟨wr', cs, e0, e2, e1⟩⟩
      · exact ⟨wr, cs', e1.symm.trans hx, rfl, gm i e⟩
      · obtain ⟨wr0, cs, a1, a2, a3⟩ := l.box i wr cs' (hide_here hi) (e1.symm.trans hx)
        obtain ⟨b0, b1, b2 | ⟨_, b2 | ⟨wr3, cs3, b3, b4⟩⟩⟩ := hide_cases ms ls a1
        · cases b2.2
        · subst b2; exact ⟨_, _, b1, a2, by rw [gn i e]; exact a3⟩
        · cases b4; subst b3; exact ⟨_, _, b1, a2, by rw [gn i e]; exact a3⟩
      · rw [hx] at e1; cases e1
        obtain ⟨_, _, _, _, a3⟩ := l.box i false _ (hide_here hi) e2
        exact ⟨_, _, e0, rfl, by rw [gn i e]; exact a3⟩
    row := fun i wr t ee xs' hi hx => by
      rcases sc i with ⟨e, _, e1⟩ | ⟨e, e1 | ⟨wr', cs, e0, e2, e1⟩⟩
      · exact ⟨wr, xs', e1.symm.trans hx, fun _ => rfl, gm i e⟩
      · obtain ⟨wr0, xs, a1, a2, a3⟩ := l.row i wr t ee xs' (hide_here hi) (e1.symm.trans hx)
        obtain ⟨b0, b1, b2 | ⟨_, b2 | ⟨wr3, cs3, b3, b4⟩⟩⟩ := hide_cases ms ls a1
        · cases b2.2
        · subst b2; exact ⟨_, _, b1, a2, by rw [gn i e]; exact a3⟩
        · cases b4
      · rw [hx] at e1; cases e1
    lp := fun i st pend ts ps aw bo hi hx => by
      rcases sc i with ⟨e, _, e1⟩ | ⟨e, e1 | ⟨wr', cs, e0, e2, e1⟩⟩
      · exact ⟨st, pend, e1.symm.trans hx, gm i e⟩
      · obtain ⟨st0, pend0, a1, a3⟩ := l.lp i st pend ts ps aw bo (hide_here hi) (e1.symm.trans hx)
        obtain ⟨b0, b1, b2 | ⟨_, b2 | ⟨wr3, cs3, b3, b4⟩⟩⟩ := hide_cases ms ls a1
        · cases b2.2
        · subst b2; exact ⟨_, _, b1, by rw [gn i e]; exact a3⟩
        · cases b4
      · rw [hx] at e1; cases e1
    lockb := fun i cs hx => by
      rcases sc i with ⟨e, _, e1⟩ | ⟨e, e1 | ⟨wr', cs', e0, e2, e1⟩⟩
      · exact e1.trans hx
      · refine e1.trans (l.lockb i cs ?_)
        rw [hideH_get, hx, Option.map_some, hideB, e, cond_false]
        cases ls.contains i <;> rfl
      · rw [e0] at hx; cases hx; exact e1
    lockr := fun i t ee xs hx => by
      rcases sc i with ⟨e, _, e1⟩ | ⟨e, e1 | ⟨wr', cs', e0, e2, e1⟩⟩
      · exact e1.trans hx
      · refine e1.trans (l.lockr i t ee xs ?_)
        rw [hideH_get, hx, Option.map_some, hideB, e, cond_false]
        cases ls.contains i <;> rfl
      · rw [e0] at hx; cases hx
    os := l.os
    tape := l.tape
    output := l.output
    size := l.size }
  refine ⟨g2, ?_, le, rep2⟩
  have cellN : ∀ {b : ABlk} {cs : List AVal} {wr : Bool}, b = .box wr cs → (ms = [] ∨ noNB ms b = true) → ∀ (j : Nat) c, cs[j]? = some c → NoM ms c := fun {b cs wr} e hn j c hc => by
    subst e
    rcases hn with hn | hn
    · exact .inl hn
    · exact .inr ⟨9, List.all_eq_true.1 (show cs.all (noN ms 9) = true from hn) c (List.mem_of_getElem? hc)⟩
  exact {
    blk := fun i b hb => by
      rcases sc i with ⟨e, _, e1⟩ | ⟨e, e1 | ⟨wr', cs', e0, e2, e1⟩⟩
      · have hb' := e1.symm.trans hb
        exact (s.blk i b hb').mono le (gm i e) fun n hd hn => l.k n (.inr ⟨i, e, ⟨b, hb', hd⟩, hn⟩)
      · have hb' := e1.symm.trans hb
        have o := s1.blk i b hb'
        have hn := nb i b e hb'
        cases b with
        | dead => trivial
        | free => trivial
        | box wr cs =>
          obtain ⟨n, arr, t, h1', h2', h3', h4'⟩ := o
          exact ⟨n, arr, t, by rw [gn i e]; exact h1', h2', h3', fun j c x a b => ⟨(h4' j c x a b).1, rep2 c x (cellN rfl hn j c a) (h4' j c x a b).2⟩⟩
        | row wr t ee xs =>
          show RowOk _ g2 w1 (g2.ρ i) t ee xs
          rw [gn i e]
          exact RowOk.same o fun _ h => h
        | lp st pend ts ps aw bo =>
          rcases hn with hn | hn
          · obtain ⟨lq, arr, fn, D, h1', h2', h3', h4'⟩ := o
            exact ⟨lq, arr, fn, D, by rw [gn i e]; exact h1', h2', h3', fun j c x a b => rep2 c x (.inl hn) (h4' j c x a b)⟩
          · cases hn
      · rw [hb] at e1; cases e1
        obtain ⟨n, arr, t, h1', h2', h3', h4'⟩ := s1.blk i _ e2
        exact ⟨n, arr, t, by rw [gn i e]; exact h1', h2', h3', fun j c x a b => ⟨(h4' j c x a b).1, rep2 c x (cellN rfl (nb i _ e e2) j c a) (h4' j c x a b).2⟩⟩
    inj := fun i j b hi hj h1' h2' => by
      rcases cls i hi with ⟨ei, ai⟩ | ⟨ei, ai⟩
      · rw [gm i ei] at h1'
        rcases cls j hj with ⟨ej, aj⟩ | ⟨ej, aj⟩
        · rw [gm j ej] at h2'
          exact s.inj i j b ai aj h1' h2'
        · rw [gn j ej] at h2'
          exact absurd (.inr ⟨i, ei, ai, h1'⟩) (s1.sep j b aj h2').1
      · rw [gn i ei] at h1'
        rcases cls j hj with ⟨ej, aj⟩ | ⟨ej, aj⟩
        · rw [gm j ej] at h2'
          exact absurd (.inr ⟨j, ej, aj, h2'⟩) (s1.sep i b ai h1').1
        · rw [gn j ej] at h2'
          exact s1.inj i j b ai aj h1' h2'
    sep := fun i b hi hb => by
      rcases cls i hi with ⟨e, a⟩ | ⟨e, a⟩
      · rw [gm i e] at hb
        obtain ⟨z1, z2, z3⟩ := s.sep i b a hb
        refine ⟨z1, fun hm => ?_, Nat.lt_of_lt_of_le z3 l.size⟩
        rcases l.new b hm with hm | hk
        · exact z2 hm
        · exact hk (.inr ⟨i, e, a, hb⟩)
      · rw [gn i e] at hb
        obtain ⟨z1, z2, z3⟩ := s1.sep i b a hb
        exact ⟨fun hk => z1 (.inl hk), z2, z3⟩
    low := s1.low
    klow := fun b hk => Nat.lt_of_lt_of_le (s.klow b hk) l.size }
end
end Go.Proofs.Ytcbfmkfmdcabmaa
