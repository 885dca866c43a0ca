/- Parts of the proof, in build order. -/
import Derived.Test.YtcbfmkfmdcabmaaM8
import Derived.Test.YtcbfmkfmdcabmaaM7
namespace Go.Proofs.Ytcbfmkfmdcabmaa
open Go.RowKit
abbrev CoS := Int × Int × List (List Int) × List (List Int) × Unit
def coP {α : Type} (t : Int) (c : List Int) (n : Nat) (X Y : Option α) : Option α :=
  if ((List.nil (α := Int)).length + c.length) * 8 ≤ room then if (n + [([] : List Int) ++ c].length) * 24 ≤ room then
    if 0 ≤ t ∧ t < ((2 : Nat) : Int) then bif t == ((0 : Nat) : Int) then X else bif t == ((0 + 1 : Nat) : Int) then Y else none else none
  else none else none
def coI {α : Type} (t : Int) (L : List (List Int)) (x : CoS) : Option (LRes CoS α) :=
  bif decide (x.1 < (L.length : Int)) then
    if 0 ≤ x.1 ∧ x.1 < (L.length : Int) then
      if 0 ≤ t ∧ t < ((2 : Nat) : Int) then
        bif t == ((0 : Nat) : Int) then coP t (L.getD x.1.toNat []) x.2.2.1.length (some (.cont (IntKind.i64.wrap (x.1 + 1), x.2.1, x.2.2.1 ++ [([] : List Int) ++ L.getD x.1.toNat []], x.2.2.2.1, ()))) none
        else bif t == ((0 + 1 : Nat) : Int) then coP t (L.getD x.1.toNat []) x.2.2.2.1.length none (some (.cont (IntKind.i64.wrap (x.1 + 1), x.2.1, x.2.2.1, x.2.2.2.1 ++ [([] : List Int) ++ L.getD x.1.toNat []], ()))) else none
      else none
    else none
  else some (.brk 2 (x.1, x.2.1, x.2.2.1, x.2.2.2.1, ()))
def coF {α : Type} (N : Nat) (A B : List (List Int)) (x : CoS) : Option (LRes CoS α) :=
  bif decide (x.1 < 2) then
    if 0 ≤ x.1 ∧ x.1 < ((2 : Nat) : Int) then
      afterL (iterL N (coI x.1 ([A, B].getD x.1.toNat [])) (0, x.2.1, x.2.2.1, x.2.2.2.1, ())) fun id y => if id = 2 then some (.cont (IntKind.i64.wrap (x.1 + 1), y.2.1, y.2.2.1, y.2.2.2.1, ())) else none
    else none
  else some (.brk 0 (x.1, x.2.1, x.2.2.1, x.2.2.2.1, ()))
def co1 (L : List (List Int)) : Bool := decide (L.length ≤ 9) && L.all fun c => decide (c.length ≤ 60)
def coB (A B : List (List Int)) : Bool := co1 A && co1 B
theorem co1_in {L : List (List Int)} (h : co1 L = true) : L.length ≤ 9 ∧ ∀ i, i < L.length → (L.getD i []).length ≤ 60 := by
  unfold co1 at h
  simp only [Bool.and_eq_true, decide_eq_true_eq, List.all_eq_true] at h
  refine ⟨h.1, fun i hi => ?_⟩
  rw [List.getD_eq_getElem?_getD, List.getElem?_eq_getElem hi]
  exact h.2 _ (List.getElem_mem hi)
theorem co0_run {α : Type} {L : List (List Int)} (h : co1 L = true) (d : Int) (Y : List (List Int)) (K : Nat → CoS → Option α) : afterL (iterL 20 (coI 0 L) (0, d, [], Y, ())) K = K 2 ((L.length : Int), d, L, Y, ()) := by
  obtain ⟨h1, h2⟩ := co1_in h
  have hmx : maxLen = 9223372036854775807 := rfl
  have hroom : room ≥ 10000 := by decide
  refine (count_loop (f := coI 0 L) (fun i : Nat => ((i : Int), d, L.take i, Y, ())) L.length (fun i hi => ?_) (y := ((L.length : Int), d, L, Y, ())) (b := 2) ?_ (by omega)).trans rfl
  · have hT : L.take (i + 1) = L.take i ++ [L.getD i []] := by
      rw [List.take_add_one, List.getElem?_eq_getElem hi, List.getD_eq_getElem?_getD, List.getElem?_eq_getElem hi]; rfl
    have hl : (L.take i).length = i := List.length_take_of_le (by omega)
    have h3 := h2 i hi
    unfold coI
    simp only []
    rw [lt_len hi, cond_true, if_pos (in_len hi), if_pos ⟨by omega, by omega⟩, Int.toNat_natCast, wrap_next hi (by omega), hT]
    show coP 0 _ _ _ _ = _
    unfold coP
    rw [if_pos (show ((List.nil (α := Int)).length + (L.getD i []).length) * 8 ≤ room by simp only [List.length_nil]; omega), if_pos (show ((L.take i).length + [([] : List Int) ++ L.getD i []].length) * 24 ≤ room by rw [hl]; simp only [List.length_cons, List.length_nil]; omega), if_pos ⟨by omega, by omega⟩]
    rfl
  · unfold coI
    simp only [not_lt_len, cond_false, List.take_length]
theorem co1_run {α : Type} {L : List (List Int)} (h : co1 L = true) (d : Int) (X : List (List Int)) (K : Nat → CoS → Option α) : afterL (iterL 20 (coI 1 L) (0, d, X, [], ())) K = K 2 ((L.length : Int), d, X, L, ()) := by
  obtain ⟨h1, h2⟩ := co1_in h
  have hmx : maxLen = 9223372036854775807 := rfl
  have hroom : room ≥ 10000 := by decide
  refine (count_loop (f := coI 1 L) (fun i : Nat => ((i : Int), d, X, L.take i, ())) L.length (fun i hi => ?_) (y := ((L.length : Int), d, X, L, ())) (b := 2) ?_ (by omega)).trans rfl
  · have hT : L.take (i + 1) = L.take i ++ [L.getD i []] := by
      rw [List.take_add_one, List.getElem?_eq_getElem hi, List.getD_eq_getElem?_getD, List.getElem?_eq_getElem hi]; rfl
    have hl : (L.take i).length = i := List.length_take_of_le (by omega)
    have h3 := h2 i hi
    unfold coI
    simp only []
    rw [lt_len hi, cond_true, if_pos (in_len hi), if_pos ⟨by omega, by omega⟩, Int.toNat_natCast, wrap_next hi (by omega), hT]
    show coP 1 _ _ _ _ = _
    unfold coP
    rw [if_pos (show ((List.nil (α := Int)).length + (L.getD i []).length) * 8 ≤ room by simp only [List.length_nil]; omega), if_pos (show ((L.take i).length + [([] : List Int) ++ L.getD i []].length) * 24 ≤ room by rw [hl]; simp only [List.length_cons, List.length_nil]; omega), if_pos ⟨by omega, by omega⟩]
    rfl
  · unfold coI
    simp only [not_lt_len, cond_false, List.take_length]
theorem co_run {α : Type} {A B : List (List Int)} (h : coB A B = true) (d : Int) (K : Nat → CoS → Option α) : afterL (iterL 20 (coF 20 A B) (0, d, [], [], ())) K = K 0 (2, d, A, B, ()) := by
  unfold coB at h
  rw [Bool.and_eq_true] at h
  have s0 : coF (α := α) 20 A B (0, d, [], [], ()) = some (.cont (1, d, A, [], ())) := by
    show afterL (iterL 20 (coI 0 A) (0, d, [], [], ())) _ = _
    rw [co0_run h.1]
    rfl
  have s1 : coF (α := α) 20 A B (1, d, A, [], ()) = some (.cont (2, d, A, B, ())) := by
    show afterL (iterL 20 (coI 1 B) (0, d, A, [], ())) _ = _
    rw [co1_run h.2]
    rfl
  have s2 : coF (α := α) 20 A B (2, d, A, B, ()) = some (.brk 0 (2, d, A, B, ())) := rfl
  have u : ∀ (n : Nat) (f : CoS → Option (LRes CoS α)) x y, f x = some (.cont y) → iterL (n + 1) f x = iterL n f y := fun n f x y e => by
    conv => lhs; unfold iterL
    rw [e]
  rw [u 19 _ _ _ s0, u 18 _ _ _ s1]
  have : iterL 18 (coF 20 A B) (2, d, A, B, ()) = (some (.brk 0 (2, d, A, B, ())) : Option (LRes CoS α)) := by
    unfold iterL
    rw [s2]
  rw [this]
  rfl
end Go.Proofs.Ytcbfmkfmdcabmaa

namespace Go.Proofs.Ytcbfmkfmdcabmaa
open Go.RowKit
theorem new_post {K h g w hs1 u u' e w1} {nb : List ABlk} {ι σ : Nat → Nat} {J : Nat → Prop} (s : St K h g w) (S1 : Sub σ J hs1 (h ++ nb)) (hσ : ∀ i, J i → ∃ k, k < nb.length ∧ i = ι k ∧ σ i = h.length + k) (hι : ∀ k, k < nb.length → J (ι k) ∧ σ (ι k) = h.length + k) (hu : Ren σ J u u')
    (p : CvPost (KSub K (fun i => i) (fun _ => False) h g) [] ⟨fun i => g.ρ i, g.M⟩ w hs1 .normal u e w1) : CvPost K h g w (h ++ nb) .normal u' e w1 := by
  obtain ⟨g1, s1, l1, z, rfl, hz⟩ := p
  let g2 : Gh := ⟨fun j => if j < h.length then g.ρ j else g1.ρ (ι (j - h.length)), g1.M⟩
  have g2l : ∀ j, j < h.length → g2.ρ j = g.ρ j := fun j hj => if_pos hj
  have hρ : ∀ i, J i → g1.ρ i = g2.ρ (σ i) := fun i hi => by
    obtain ⟨k, hk, e1, e2⟩ := hσ i hi
    rw [e2]
    show g1.ρ i = if h.length + k < h.length then _ else g1.ρ (ι (h.length + k - h.length))
    rw [if_neg (by omega), Nat.add_sub_cancel_left, ← e1]
  have lo : ∀ j, j < h.length → (h ++ nb)[j]? = h[j]? := fun j hj => List.getElem?_append_left hj
  have hiJ : ∀ j b, (h ++ nb)[j]? = some b → ¬ j < h.length → ∃ i, J i ∧ σ i = j := fun j b hb hj => by
    have hlt := (List.getElem?_eq_some_iff.1 hb).1
    rw [List.length_append] at hlt
    obtain ⟨a, b'⟩ := hι (j - h.length) (by omega)
    exact ⟨_, a, by rw [b']; omega⟩
  have kall : ∀ j b, alive h j → blockOf (g.ρ j) = some b → KSub K (fun i => i) (fun _ => False) h g b := fun j b ha hb => .inr ⟨j, ha, fun _ hf => hf.elim, hb⟩
  have cls : ∀ j, alive (h ++ nb) j → (∃ i, J i ∧ σ i = j ∧ alive hs1 i) ∨ (alive h j ∧ j < h.length) := fun j hj => by
    obtain ⟨B, hB, hd⟩ := hj
    by_cases hl : j < h.length
    · exact .inr ⟨⟨B, by rw [← lo j hl]; exact hB, hd⟩, hl⟩
    · obtain ⟨i, hi, e1⟩ := hiJ j B hB hl
      exact .inl ⟨i, hi, e1, (S1.here hi).2.2.1⟩
  have le : Le K h g w (h ++ nb) g2 w1 := {
    len := by rw [List.length_append]; omega
    here := fun j hj => by
      have hjl := hj.lt
      obtain ⟨B, hB, hd⟩ := hj
      exact ⟨B, by rw [lo j hjl]; exact hB, hd⟩
    m := l1.m
    new := fun b hb => (l1.new b hb).elim .inl fun hk => .inr fun h => hk (.inl h)
    mw := l1.mw
    k := fun b hk => l1.k b (.inl hk)
    box := fun j wr cs' hj hx => by
      have hjl := hj.lt
      rw [lo j hjl] at hx
      exact ⟨_, _, hx, rfl, g2l _ hjl⟩
    row := fun j wr t e xs' hj hx => by
      have hjl := hj.lt
      rw [lo j hjl] at hx
      exact ⟨_, _, hx, fun _ => rfl, g2l _ hjl⟩
    lp := fun j st pend ts ps aw bo hj hx => by
      have hjl := hj.lt
      rw [lo j hjl] at hx
      exact ⟨_, _, hx, g2l _ hjl⟩
    lockb := fun j cs hx => by rw [lo j (List.getElem?_eq_some_iff.1 hx).1]; exact hx
    lockr := fun j t e xs hx => by rw [lo j (List.getElem?_eq_some_iff.1 hx).1]; exact hx
    os := l1.os
    tape := l1.tape
    output := l1.output
    size := l1.size }
  refine ⟨g2, ?_, le, z, rfl, ren_up S1 (g := g2) (gs := g1) hρ (fun _ h => h) hu hz⟩
  have part : ∀ i, J i → ∀ B, (h ++ nb)[σ i]? = some B → BlkOk (h ++ nb) g2 w1 (σ i) B := fun i hi B hB => by
    rcases S1.blk i hi with ⟨wr, cs, ds, e1, e2, q1, q2⟩ | ⟨wr, t, e, xs, e1, e2⟩
    · rw [e2] at hB; cases hB
      obtain ⟨b, arr, t, f1, f2, f3, f4⟩ := s1.blk i _ e1
      refine ⟨b, arr, t, by rw [← hρ i hi]; exact f1, f2, f3.trans q1, fun k d x hd hx => ?_⟩
      have hk : k < cs.length := by rw [q1]; exact (List.getElem?_eq_some_iff.1 hd).1
      have rr := q2 k _ d (List.getElem?_eq_getElem hk) hd
      obtain ⟨z1, z2⟩ := f4 k _ x (List.getElem?_eq_getElem hk) hx
      exact ⟨by rw [rr.scalar]; exact z1, ren_up S1 (g := g2) (gs := g1) hρ (fun _ h => h) rr z2⟩
    · rw [e2] at hB; cases hB
      have := s1.blk i _ e1
      show RowOk (h ++ nb) g2 w1 (g2.ρ (σ i)) t e xs
      rw [← hρ i hi]
      exact RowOk.same this fun _ h => h
  exact {
    blk := fun j B hB => by
      by_cases hl : j < h.length
      · rw [lo j hl] at hB
        exact (s.blk j B hB).mono le (g2l _ hl) fun n hd hn => l1.k n (kall j n ⟨B, hB, hd⟩ hn)
      · obtain ⟨i, hi, rfl⟩ := hiJ j B hB hl
        exact part i hi B hB
    inj := fun i j b hi hj h1' h2' => by
      rcases cls i hi with ⟨i0, a1, rfl, a3⟩ | ⟨a1, a2⟩
      · rcases cls j hj with ⟨j0, b1', rfl, b3⟩ | ⟨b1', b2⟩
        · rw [s1.inj i0 j0 b a3 b3 (by rw [hρ i0 a1]; exact h1') (by rw [hρ j0 b1']; exact h2')]
        · exact absurd (kall j b b1' (by rw [← g2l j b2]; exact h2')) (s1.sep i0 b a3 (by rw [hρ i0 a1]; exact h1')).1
      · rcases cls j hj with ⟨j0, b1', rfl, b3⟩ | ⟨b1', b2⟩
        · exact absurd (kall i b a1 (by rw [← g2l i a2]; exact h1')) (s1.sep j0 b b3 (by rw [hρ j0 b1']; exact h2')).1
        · exact s.inj i j b a1 b1' (by rw [← g2l i a2]; exact h1') (by rw [← g2l j b2]; exact h2')
    sep := fun j b hj hb' => by
      rcases cls j hj with ⟨i, a1, rfl, a3⟩ | ⟨a1, a2⟩
      · obtain ⟨z1, z2, z3⟩ := s1.sep i b a3 (by rw [hρ i a1]; exact hb')
        exact ⟨fun hk => z1 (.inl hk), z2, z3⟩
      · rw [g2l j a2] at hb'
        obtain ⟨z1, z2, z3⟩ := s.sep j b a1 hb'
        refine ⟨z1, fun hm => ?_, Nat.lt_of_lt_of_le z3 l1.size⟩
        rcases l1.new b hm with hm | hk
        · exact z2 hm
        · exact hk (kall j b a1 hb')
    low := s1.low
    klow := fun b hk => Nat.lt_of_lt_of_le (s.klow b hk) l1.size }
end Go.Proofs.Ytcbfmkfmdcabmaa

namespace Go.Proofs.Ytcbfmkfmdcabmaa
open Go.RowKit
abbrev liT : TypeId := 53
abbrev liR (L : List (List Int)) : ABlk := .row true liT LsSh L
def coH (d : Int) (A B : List (List Int)) (y : CoS) : List ABlk :=
  [.box true [.int .i64 d, .ro LsSh A, .ro LsSh B], liR [], liR [], .box true [.int .i64 y.2.1, .own 9, .own 10], .dead, .dead, liR [], liR [], .box true [.int .i64 y.2.1, .own 9, .own 10], liR y.2.2.1, liR y.2.2.2.1]
set_option maxRecDepth 100000 in
theorem kco_body (N n0 : Nat) (α : Type) (d : Int) (A B : List (List Int)) (k : AExit → AVal → List ABlk → Option α) : evBody real tab ((twN fsK9 spK).env real tab N (n0 + 30)) N Try.f20 (α := α) [.agg [.int .i64 d, .ro LsSh A, .ro LsSh B]] [] k =
  afterL (iterL N (coF N A B) (0, d, [], [], ())) fun id y => if id = 0 then k .normal (.agg [.int .i64 y.2.1, .own 9, .own 10]) (coH d A B y) else none := by kernel_rfl
def cpX : Cv → Cv := fun _ _ v args h k =>
  match v, args with
  | .fn f [], [.agg [.int .i64 d, .ro (.sl (.int .i64)) A, .ro (.sl (.int .i64)) B]] =>
    if f = 20 then bif coB A B then k .normal (.agg [.int .i64 d, .own h.length, .own (h.length + 1)]) (h ++ [liR A, liR B]) else none else none
  | _, _ => none
theorem cpX_at (cv : Cv) (caps : List AVal) : CvAt Try.prog (cpX cv) (.fn 20 caps) where
  nat := fun α args h k => by
    unfold cpX
    split
    · split
      · rw [cond_bind]; rfl
      · rfl
    · rfl
  ok := fun args h x u h1 hk K g w fv cargs s hv hlen hargs => by
    unfold cpX at hk
    split at hk
    case h_2 => cases hk
    rename_i f d A B hcaps
    split at hk
    case isFalse => cases hk
    cases hc : coB A B
    · rw [hc] at hk; cases hk
    rw [hc] at hk
    cases hk
    cases hcaps
    cases hv with
    | fn _ _ arr ha1 ha2 =>
      refine .inl ⟨_, arr, rfl, fun w => by kernel_rfl, ?_⟩
      have ha0 : arr = #[] := Array.eq_empty_of_size_eq_zero (by rw [← ha1]; rfl)
      subst ha0
      have hbody : evBody real tab ((twN fsK9 spK).env real tab 20 30) 20 Try.f20 [.agg [.int .i64 d, .ro LsSh A, .ro LsSh B]] [] tripE = some (.normal, .agg [.int .i64 d, .own 9, .own 10], coH d A B (2, d, A, B, ())) := (kco_body 20 0 _ d A B tripE).trans ((co_run hc d _).trans rfl)
      have S0 : Sub (fun i => i) (fun _ => False) [] h := ⟨fun i j hi => hi.elim, fun i hi => hi.elim⟩
      have st := sub_st s (I := fun _ => False) (hs := []) (fun i hi => by simp at hi) S0
      have S1 : Sub (fun i => h.length + (i - 9)) (fun i => i = 9 ∨ i = 10) (coH d A B (2, d, A, B, ())) (h ++ [liR A, liR B]) := ⟨fun i j hi hj e => by
        have e' : h.length + (i - 9) = h.length + (j - 9) := e
        rcases hi with rfl | rfl <;> rcases hj with rfl | rfl <;> omega, fun i hi => by
        rcases hi with rfl | rfl
        · exact .inr ⟨true, liT, LsSh, A, rfl, by show (h ++ [liR A, liR B])[h.length + 0]? = _; rw [List.getElem?_append_right (by omega)]; simp⟩
        · exact .inr ⟨true, liT, LsSh, B, rfl, by show (h ++ [liR A, liR B])[h.length + 1]? = _; rw [List.getElem?_append_right (by omega)]; simp⟩⟩
      refine (body_calls mixedT tabOk (tower_ok mixedT tabOk (twN_ok fsK9_ok spK_ok) 20 30) 20 Try.func20 hbody (cargs := cargs ++ #[]) st (by rw [Array.append_empty]; exact hlen) fun j c' z hc' hz => ?_).mono fun e' w' hp => new_post (ι := fun k => k + 9) (σ := fun i => h.length + (i - 9)) (J := fun i => i = 9 ∨ i = 10) s S1 (fun i hi => ?_) (fun k hk => ?_) (u := .agg [.int .i64 d, .own 9, .own 10]) (.agg [.int .i64 d, .own 9, .own 10] [.int .i64 d, .own h.length, .own (h.length + 1)] rfl fun j c d' hc hd => ?_) hp
      · rw [Array.append_empty] at hz
        match j, hc' with
        | 0, hc' =>
          cases hc'
          exact ren_down S0 (g := g) (gs := ⟨fun i => g.ρ i, g.M⟩) (fun _ hi => hi.elim) (fun _ h => h) (.agg _ _ rfl fun j c d' hc hd => by
            rw [hc] at hd; cases hd
            match j, hc with
            | 0, hc => cases hc; exact .flat _ rfl
            | 1, hc => cases hc; exact .flat _ rfl
            | 2, hc => cases hc; exact .flat _ rfl
            | j + 3, hc => simp at hc) (hargs 0 _ z rfl hz)
        | j + 1, hc' => simp at hc'
      · rcases hi with rfl | rfl
        · exact ⟨0, by simp, rfl, rfl⟩
        · exact ⟨1, by simp, rfl, rfl⟩
      · have hk' : k < 2 := by simpa using hk
        match k, hk' with
        | 0, _ => exact ⟨.inl rfl, rfl⟩
        | 1, _ => exact ⟨.inr rfl, rfl⟩
      · match j, hc, hd with
        | 0, hc, hd => cases hc; cases hd; exact .flat _ rfl
        | 1, hc, hd => cases hc; cases hd; exact .own 9 (.inl rfl)
        | 2, hc, hd => cases hc; cases hd; exact .own 10 (.inr rfl)
        | j + 3, hc, _ => simp at hc
noncomputable def spC' : FuncId → Option (Cv → Cv) := fun g =>
  if g = 20 then some cpX else spK g
theorem spC'_ok : SpOk spC' := sp_cons (fun cv _ caps => cpX_at cv caps) spK_ok
end Go.Proofs.Ytcbfmkfmdcabmaa

namespace Go.Proofs.Ytcbfmkfmdcabmaa
end Go.Proofs.Ytcbfmkfmdcabmaa

namespace Go.Proofs.Ytcbfmkfmdcabmaa
open Go.RowKit
theorem rndP_small {how n d : Int} {neg : Bool} (h0 : 0 ≤ n) (hd : 0 < d) (h : n / d < 18446744073709551614) : rndP how neg n d = rnd how neg n d := by
  have h1 := Int.ediv_nonneg h0 (Int.le_of_lt hd)
  unfold rndP
  rw [decide_eq_true (by omega), cond_true]
  unfold rnd
  cases up1 how neg (n % d) d <;> simp only [cond_true, cond_false] <;> omega
theorem rnd_down {s d : Int} (hd : 0 < d) : sg (ngB s) (rnd 1 (ngB s) (ab s) d) = s / d := by
  unfold rnd up1 sg ngB ab
  have e1 := Int.emod_add_mul_ediv s d
  have e2 := Int.emod_nonneg s (show d ≠ 0 by omega)
  have e3 := Int.emod_lt_of_pos s hd
  by_cases h : s < 0
  · rw [decide_eq_true h, if_pos h]
    simp only [cond_true, if_pos rfl, Bool.and_true]
    have f1 := Int.emod_add_mul_ediv (-s) d
    have f2 := Int.emod_nonneg (-s) (show d ≠ 0 by omega)
    have f3 := Int.emod_lt_of_pos (-s) hd
    by_cases hz : (-s) % d = 0
    · rw [hz, decide_eq_false (by omega)]
      simp only [Bool.false_and, cond_false]
      have hs : s % d = 0 := by
        have := Int.emod_emod_of_dvd s (Int.dvd_refl d)
        exact (Int.emod_eq_zero_of_dvd (by have := Int.dvd_of_emod_eq_zero hz; exact (Int.dvd_neg).1 this))
      have : d * (-s / d) + d * (s / d) = 0 := by omega
      have : d * (-s / d + s / d) = 0 := by rw [Int.mul_add]; omega
      have := (Int.mul_eq_zero.1 this).resolve_left (by omega)
      omega
    · rw [decide_eq_true (by omega)]
      simp only [ite_true, Bool.true_and, cond_true]
      have hs : s % d ≠ 0 := fun hs => hz (Int.emod_eq_zero_of_dvd ((Int.dvd_neg).2 (Int.dvd_of_emod_eq_zero hs)))
      have h1 : d * (-s / d + s / d) = -((-s) % d) - s % d := by rw [Int.mul_add]; omega
      have h2 : -s / d + s / d = -1 := by
        have a : -s / d + s / d < 0 := by
          rcases Int.lt_or_le (-s / d + s / d) 0 with q | q
          · exact q
          · have := Int.mul_nonneg (Int.le_of_lt hd) q; omega
        have b : -2 < -s / d + s / d := by
          rcases Int.lt_or_le (-2) (-s / d + s / d) with q | q
          · exact q
          · have := Int.mul_le_mul_of_nonneg_left q (Int.le_of_lt hd); omega
        omega
      omega
  · rw [decide_eq_false h, if_neg h]
    simp
theorem i64_in (n : Int) (h : -9223372036854775808 ≤ n ∧ n ≤ 9223372036854775807) : IntKind.i64.wrap n = n := by rw [IntKind.wrap_i64]; omega
theorem ab_pos {x : Int} (h : 0 ≤ x) : ab x = x := by unfold ab; rw [if_neg (by omega)]
theorem ng_pos {x : Int} (h : 0 ≤ x) : ngB x = false := decide_eq_false (by omega)
end Go.Proofs.Ytcbfmkfmdcabmaa

namespace Go.Proofs.Ytcbfmkfmdcabmaa
open Go.RowKit
/-! Folds and sums over places. -/
def foN (op : Int → Int → Int) (v : Nat → Int) : Nat → Int
  | 0 => v 0
  | i + 1 => op (foN op v i) (v (i + 1))
def doN (c v : Nat → Int) : Nat → Int
  | 0 => 0
  | i + 1 => doN c v i + c i * v i
def smN (c : Nat → Int) : Nat → Int
  | 0 => 0
  | i + 1 => smN c i + c i
def atL (l : List Int) (i : Nat) : Int := l.getD i 0
def mqL (c v : Nat → Int) (n : Nat) (d : Int) : Int := (d * foN mnI v (n - 1) + doN c v n) / (smN c n + d)
def mqH (c v : Nat → Int) (n : Nat) (d : Int) : Int := -((-(d * foN mxI v (n - 1) + doN c v n)) / (smN c n + d))
theorem mnV_fo (op : Int → Int → Int) (v : List Int) : ∀ i, mnV op v i = foN op (atL v) i
  | 0 => rfl
  | i + 1 => by rw [mnV, foN, mnV_fo op v i]; rfl
theorem mxI_or (a b : Int) : (a < b ∧ mxI a b = b) ∨ (b ≤ a ∧ mxI a b = a) := by unfold mxI; split <;> omega
theorem mnI_or (a b : Int) : (b < a ∧ mnI a b = b) ∨ (a ≤ b ∧ mnI a b = a) := by unfold mnI; split <;> omega
theorem mx_in {B : Int} {v : Nat → Int} {op : Int → Int → Int} (ho : op = mxI ∨ op = mnI) : ∀ n, (∀ i, i ≤ n → 0 ≤ v i ∧ v i ≤ B) → 0 ≤ foN op v n ∧ foN op v n ≤ B
  | 0, h => h 0 (Nat.le_refl _)
  | n + 1, h => by
    have h1 := mx_in ho n fun i hi => h i (by omega)
    have h2 := h (n + 1) (Nat.le_refl _)
    rw [foN]
    rcases ho with rfl | rfl
    · rcases mxI_or (foN mxI v n) (v (n + 1)) with ⟨_, e⟩ | ⟨_, e⟩ <;> rw [e] <;> omega
    · rcases mnI_or (foN mnI v n) (v (n + 1)) with ⟨_, e⟩ | ⟨_, e⟩ <;> rw [e] <;> omega
theorem mul_nn {a b c : Int} (h1 : 0 ≤ a) (h2 : 0 ≤ b) (h3 : a ≤ c) {B : Int} (h4 : b ≤ B) (h5 : 0 ≤ B) : 0 ≤ a * b ∧ a * b ≤ c * B := by
  refine ⟨Int.mul_nonneg h1 h2, ?_⟩
  have a1 := Int.mul_le_mul_of_nonneg_left h4 h1
  have a2 := Int.mul_le_mul_of_nonneg_right h3 h5
  omega
theorem do_in {c v : Nat → Int} : ∀ n, (∀ i, i < n → (0 ≤ c i ∧ c i ≤ 1000000) ∧ 0 ≤ v i ∧ v i ≤ 65536) → 0 ≤ doN c v n ∧ doN c v n ≤ 65536000000 * (n : Int)
  | 0, _ => ⟨Int.le_refl _, Int.le_refl _⟩
  | n + 1, h => by
    have h1 := do_in n fun i hi => h i (by omega)
    obtain ⟨h2, h3⟩ := h n (by omega)
    have h4 := mul_nn h2.1 h3.1 h2.2 h3.2 (show (0 : Int) ≤ 65536 by omega)
    rw [doN]
    omega
theorem sm_in {c : Nat → Int} : ∀ n, (∀ i, i < n → 0 ≤ c i ∧ c i ≤ 1000000) → 0 ≤ smN c n ∧ smN c n ≤ 1000000 * (n : Int)
  | 0, _ => ⟨Int.le_refl _, Int.le_refl _⟩
  | n + 1, h => by
    have h1 := sm_in n fun i hi => h i (by omega)
    have h2 := h n (by omega)
    rw [smN]
    omega
theorem suW_sm {c : List Int} (hc : ∀ i, i < 17 → 0 ≤ atL c i ∧ atL c i ≤ 1000000) : ∀ n, n ≤ 17 → suW c n = smN (atL c) n
  | 0, _ => rfl
  | n + 1, h => by
    have h1 := sm_in (c := atL c) n fun i hi => hc i (by omega)
    have h2 := hc n (by omega)
    rw [suW, smN, suW_sm hc n (by omega)]
    show IntKind.i64.wrap (smN (atL c) n + atL c n) = _
    rw [IntKind.wrap_i64]; omega
theorem toV_do {c v : List Int} {x : Int} (hx : 0 ≤ x ∧ x ≤ 65536000) (h : ∀ i, i < 17 → (0 ≤ atL c i ∧ atL c i ≤ 1000000) ∧ 0 ≤ atL v i ∧ atL v i ≤ 65536) : ∀ n, n ≤ 17 → toV c v x n = x + doN (atL c) (atL v) n
  | 0, _ => (Int.add_zero x).symm
  | n + 1, hn => by
    have h1 := do_in (c := atL c) (v := atL v) n fun i hi => h i (by omega)
    obtain ⟨h2, h3⟩ := h n (by omega)
    have h4 := mul_nn h2.1 h3.1 h2.2 h3.2 (show (0 : Int) ≤ 65536 by omega)
    rw [toV, doN, toV_do hx h n (by omega)]
    show IntKind.i64.wrap (x + doN (atL c) (atL v) n + IntKind.i64.wrap (atL c n * atL v n)) = _
    rw [i64_in (atL c n * atL v n) (by omega), IntKind.wrap_i64]; omega
/-! The rest's share. -/
theorem rnd_neg (neg : Bool) (n d : Int) : rnd 2 neg n d = rnd 1 (!neg) n d := by
  unfold rnd up1
  simp
theorem rnd_up {s d : Int} (hd : 0 < d) : sg (ngB s) (rnd 2 (ngB s) (ab s) d) = -((-s) / d) := by
  by_cases h0 : s = 0
  · subst h0
    unfold rnd up1 sg ngB ab
    simp
  · rw [rnd_neg, ← rnd_down hd]
    have e1 : ngB (-s) = !ngB s := by
      unfold ngB
      by_cases h : s < 0
      · rw [decide_eq_true h, decide_eq_false (by omega)]; rfl
      · rw [decide_eq_false h, decide_eq_true (by omega)]; rfl
    have e2 : ab (-s) = ab s := by unfold ab; split <;> split <;> omega
    rw [e1, e2]
    unfold sg
    cases ngB s <;> simp
theorem rnd_le {s d : Int} (hd : 0 < d) (how : Int) (neg : Bool) (h : ab s < d) : 0 ≤ rnd how neg (ab s) d ∧ rnd how neg (ab s) d ≤ 1 := by
  have h0 := ab_nn s
  unfold rnd
  rw [Int.ediv_eq_zero_of_lt h0 h]
  cases up1 how neg (ab s % d) d <;> simp
theorem sl_one {s d how : Int} (hw : how = 1 ∨ how = 2) (hd : 0 < d ∧ d ≤ 2000000000) (h : ab s < d) : slV s 1 d how = sg (ngB s) (rnd how (ngB s) (ab s) d) := by
  have h0 := ab_nn s
  have h1 := rnd_le hd.1 how (ngB s) h
  have hab : -2000000000 ≤ s ∧ s ≤ 2000000000 := by unfold ab at h; split at h <;> omega
  have hg : scG s 1 d = ngB s := by
    unfold scG
    rw [ng_pos (show (0 : Int) ≤ 1 by omega), ng_pos (show 0 ≤ d by omega)]
    unfold xorB
    cases ngB s <;> rfl
  have hP : slP s 1 d how = rnd how (ngB s) (ab s) d := by
    unfold slP
    rw [hg, ab_pos (show (0 : Int) ≤ 1 by omega), ab_pos (show 0 ≤ d by omega), Int.mul_one]
    exact rndP_small h0 hd.1 (by rw [Int.ediv_eq_zero_of_lt h0 h]; omega)
  have hok : slOk s 1 d = true := by
    unfold slOk
    rw [ok_iff.2 (by omega), rate_iff.2 (by omega), rate_iff.2 (by omega)]; rfl
  have hd0 : (d == 0) = false := by simp; omega
  have hf : fxB (rnd how (ngB s) (ab s) d) = true := by simp only [fxB, decide_eq_true_eq]; omega
  unfold slV
  rw [hok, hd0, hP, hg]
  unfold fxV
  rw [hf]
  rfl
/-! The mean's bounds. -/
structure C17 (c : List Int) : Prop where
  w : cntW c = true
  len : c.length = 17
structure V17 (v : List Int) : Prop where
  len : v.length = 17
  bd : ∀ i, i < 17 → 0 ≤ atL v i ∧ atL v i ≤ 65536
theorem C17.bd {c : List Int} (h : C17 c) : ∀ i, i < 17 → 0 ≤ atL c i ∧ atL c i ≤ 1000000 := fun i hi => by
  have h1 := h.w
  unfold cntW at h1
  simp only [Bool.and_eq_true, Bool.not_eq_true', List.any_eq_false] at h1
  have := h1.2.2 i (List.mem_range.2 (by rw [h.len]; exact hi))
  unfold cnO at this
  simpa [atL] using this
theorem mnB_17 {c v : List Int} (hc : C17 c) (hv : V17 v) {d : Int} (hd : 1 ≤ d ∧ d ≤ 1000) : mnB c v d = true := by
  unfold mnB
  have hx : ((List.range v.length).any fun i => !vaO (v.getD i 0)) = false := by
    rw [List.any_eq_false]
    intro i hi
    have := hv.bd i (by have := List.mem_range.1 hi; rw [hv.len] at this; exact this)
    unfold atL at this
    unfold vaO
    rw [decide_eq_true (by omega), decide_eq_true (by omega)]
    simp
  rw [hc.w, hx, hc.len, hv.len, decide_eq_true hd.1, decide_eq_true hd.2]
  rfl
theorem meO_17 {op : Int → Int → Int} (ho : op = mxI ∨ op = mnI) {c v : List Int} (hc : C17 c) (hv : V17 v) {d : Int} (hd : 1 ≤ d ∧ d ≤ 1000) : meO op c v d = d * foN op (atL v) 16 + doN (atL c) (atL v) 17 ∧ 0 ≤ d * foN op (atL v) 16 + doN (atL c) (atL v) 17 ∧ d * foN op (atL v) 16 + doN (atL c) (atL v) 17 ≤ 1200000000000 := by
  have h1 := mx_in ho 16 (v := atL v) (B := 65536) fun i hi => hv.bd i (by omega)
  have h2 := mul_nn (show 0 ≤ d by omega) h1.1 hd.2 h1.2 (show (0 : Int) ≤ 65536 by omega)
  have h3 := do_in (c := atL c) (v := atL v) 17 fun i hi => ⟨hc.bd i hi, hv.bd i hi⟩
  refine ⟨?_, by omega, by omega⟩
  unfold meO
  rw [mnV_fo, hv.len, hc.len, show (17 : Nat) - 1 = 16 from rfl, i64_in _ (by omega)]
  exact toV_do (by omega) (fun i hi => ⟨hc.bd i hi, hv.bd i hi⟩) 17 (Nat.le_refl _)
theorem meN_17 {c : List Int} (hc : C17 c) {d : Int} (hd : 1 ≤ d ∧ d ≤ 1000) : meN c d = smN (atL c) 17 + d ∧ 1 ≤ smN (atL c) 17 + d ∧ smN (atL c) 17 + d ≤ 17001000 := by
  have h1 := sm_in (c := atL c) 17 hc.bd
  refine ⟨?_, by omega, by omega⟩
  unfold meN
  rw [hc.len, suW_sm hc.bd 17 (Nat.le_refl _), i64_in _ (by omega)]
theorem me_lo {c v : List Int} (hc : C17 c) (hv : V17 v) {d : Int} (hd : 1 ≤ d ∧ d ≤ 1000) : meW mnI 1 c v d = mqL (atL c) (atL v) 17 d := by
  obtain ⟨e1, x0, x1⟩ := meO_17 (.inr rfl) hc hv hd
  obtain ⟨e2, n0, n1⟩ := meN_17 hc hd
  unfold meW mqL
  rw [e1, e2]
  generalize d * foN mnI (atL v) (17 - 1) + doN (atL c) (atL v) 17 = X at *
  generalize smN (atL c) 17 + d = n at *
  have m0 := Int.emod_nonneg X (show n ≠ 0 by omega)
  have m1 := Int.emod_lt_of_pos X (show 0 < n by omega)
  have q0 := Int.ediv_nonneg x0 (show 0 ≤ n by omega)
  have q1 : X / n ≤ X := Int.ediv_le_self n x0
  rw [Int.tdiv_eq_ediv_of_nonneg x0, Int.tmod_eq_emod_of_nonneg x0, sl_one (.inl rfl) (by omega) (by rw [ab_pos m0]; exact m1), rnd_down (by omega), Int.ediv_eq_zero_of_lt m0 m1, i64_in (X / n) (by omega), Int.add_zero, i64_in _ (by omega)]
theorem me_hi {c v : List Int} (hc : C17 c) (hv : V17 v) {d : Int} (hd : 1 ≤ d ∧ d ≤ 1000) : meW mxI 2 c v d = mqH (atL c) (atL v) 17 d := by
  obtain ⟨e1, x0, x1⟩ := meO_17 (.inl rfl) hc hv hd
  obtain ⟨e2, n0, n1⟩ := meN_17 hc hd
  unfold meW mqH
  rw [e1, e2]
  generalize d * foN mxI (atL v) (17 - 1) + doN (atL c) (atL v) 17 = X at *
  generalize smN (atL c) 17 + d = n at *
  have m0 := Int.emod_nonneg X (show n ≠ 0 by omega)
  have m1 := Int.emod_lt_of_pos X (show 0 < n by omega)
  have q0 := Int.ediv_nonneg x0 (show 0 ≤ n by omega)
  have q1 : X / n ≤ X := Int.ediv_le_self n x0
  have hs : (-X) / n = (-(X % n)) / n + -(X / n) := by
    rw [← Int.add_mul_ediv_right _ _ (show n ≠ 0 by omega)]
    congr 1
    have := Int.emod_add_mul_ediv X n
    have e : -(X / n) * n = -(n * (X / n)) := by rw [Int.neg_mul, Int.mul_comm]
    omega
  have r0 : -1 ≤ (-(X % n)) / n ∧ (-(X % n)) / n ≤ 0 := by
    constructor
    · exact (Int.le_ediv_iff_mul_le (show 0 < n by omega)).2 (by omega)
    · have := Int.ediv_le_ediv (show 0 < n by omega) (show -(X % n) ≤ 0 by omega)
      rw [Int.zero_ediv] at this; exact this
  rw [Int.tdiv_eq_ediv_of_nonneg x0, Int.tmod_eq_emod_of_nonneg x0, sl_one (.inr rfl) (by omega) (by rw [ab_pos m0]; exact m1), rnd_up (by omega), i64_in (X / n) (by omega), i64_in _ (by omega), hs]
  omega
theorem meH_17 {c lo hi : List Int} (hc : C17 c) (h1 : V17 lo) (h2 : V17 hi) {d : Int} (hd : 1 ≤ d ∧ d ≤ 1000) : meH c lo hi d = (mqL (atL c) (atL lo) 17 d, mqH (atL c) (atL hi) 17 d, ()) := by
  unfold meH
  rw [mnB_17 hc h1 hd, mnB_17 hc h2 hd, me_lo hc h1 hd, me_hi hc h2 hd]
  rfl
/-! What is so of quotients. -/
theorem fo_congr {op : Int → Int → Int} {v w : Nat → Int} : ∀ n, (∀ i, i ≤ n → v i = w i) → foN op v n = foN op w n
  | 0, h => h 0 (Nat.le_refl _)
  | n + 1, h => by rw [foN, foN, fo_congr n fun i hi => h i (by omega), h (n + 1) (Nat.le_refl _)]
theorem do_congr {c v w : Nat → Int} : ∀ n, (∀ i, i < n → v i = w i) → doN c v n = doN c w n
  | 0, _ => rfl
  | n + 1, h => by rw [doN, doN, do_congr n fun i hi => h i (by omega), h n (by omega)]
theorem mqL_congr {c v w : Nat → Int} {d : Int} (h : ∀ i, i < 17 → v i = w i) : mqL c v 17 d = mqL c w 17 d := by
  unfold mqL
  rw [fo_congr (17 - 1) fun i hi => h i (by omega), do_congr 17 h]
theorem mqH_congr {c v w : Nat → Int} {d : Int} (h : ∀ i, i < 17 → v i = w i) : mqH c v 17 d = mqH c w 17 d := by
  unfold mqH
  rw [fo_congr (17 - 1) fun i hi => h i (by omega), do_congr 17 h]
theorem fo_mono {op : Int → Int → Int} (ho : op = mxI ∨ op = mnI) {v w : Nat → Int} : ∀ n, (∀ i, i ≤ n → v i ≤ w i) → foN op v n ≤ foN op w n
  | 0, h => h 0 (Nat.le_refl _)
  | n + 1, h => by
    have h1 := fo_mono ho n fun i hi => h i (by omega)
    have h2 := h (n + 1) (Nat.le_refl _)
    rw [foN, foN]
    rcases ho with rfl | rfl
    · rcases mxI_or (foN mxI v n) (v (n + 1)) with ⟨_, e⟩ | ⟨_, e⟩ <;> rcases mxI_or (foN mxI w n) (w (n + 1)) with ⟨_, e'⟩ | ⟨_, e'⟩ <;> rw [e, e'] <;> omega
    · rcases mnI_or (foN mnI v n) (v (n + 1)) with ⟨_, e⟩ | ⟨_, e⟩ <;> rcases mnI_or (foN mnI w n) (w (n + 1)) with ⟨_, e'⟩ | ⟨_, e'⟩ <;> rw [e, e'] <;> omega
theorem fo_le {v w : Nat → Int} : ∀ n, (∀ i, i ≤ n → v i ≤ w i) → foN mnI v n ≤ foN mxI w n
  | 0, h => h 0 (Nat.le_refl _)
  | n + 1, h => by
    have h1 := fo_le n fun i hi => h i (by omega)
    have h2 := h (n + 1) (Nat.le_refl _)
    rw [foN, foN]
    rcases mnI_or (foN mnI v n) (v (n + 1)) with ⟨_, e⟩ | ⟨_, e⟩ <;> rcases mxI_or (foN mxI w n) (w (n + 1)) with ⟨_, e'⟩ | ⟨_, e'⟩ <;> rw [e, e'] <;> omega
theorem do_mono {c v w : Nat → Int} : ∀ n, (∀ i, i < n → 0 ≤ c i ∧ v i ≤ w i) → doN c v n ≤ doN c w n
  | 0, _ => Int.le_refl _
  | n + 1, h => by
    have h1 := do_mono n fun i hi => h i (by omega)
    have h2 := h n (by omega)
    have := Int.mul_le_mul_of_nonneg_left h2.2 h2.1
    rw [doN, doN]
    omega
theorem do_top {c v : Nat → Int} : ∀ n, (∀ i, i < n → 0 ≤ c i ∧ v i ≤ 65536) → doN c v n ≤ 65536 * smN c n
  | 0, _ => Int.le_refl _
  | n + 1, h => by
    have h1 := do_top n fun i hi => h i (by omega)
    have h2 := h n (by omega)
    have := Int.mul_le_mul_of_nonneg_left h2.2 h2.1
    rw [doN, smN]
    omega
theorem ceil_le {X Y n : Int} (hn : 0 < n) (h : X ≤ Y) : -((-X) / n) ≤ -((-Y) / n) := by
  have := Int.ediv_le_ediv hn (show -Y ≤ -X by omega)
  omega
theorem floor_ceil {X n : Int} (hn : 0 < n) : X / n ≤ -((-X) / n) := by
  have h1 := Int.ediv_mul_le X (show n ≠ 0 by omega)
  have h2 := Int.ediv_mul_le (-X) (show n ≠ 0 by omega)
  have h3 : (X / n + (-X) / n) * n ≤ 0 := by rw [Int.add_mul]; omega
  have : X / n + (-X) / n ≤ 0 := by
    rcases Int.lt_or_le 0 (X / n + (-X) / n) with h | h
    · have := Int.mul_pos h hn; omega
    · exact h
  omega
theorem mqL_mono {c v w : Nat → Int} {d : Int} (hc : ∀ i, i < 17 → 0 ≤ c i ∧ c i ≤ 1000000) (hd : 1 ≤ d ∧ d ≤ 1000) (h : ∀ i, i < 17 → v i ≤ w i) : mqL c v 17 d ≤ mqL c w 17 d := by
  have s := sm_in 17 hc
  have f := fo_mono (.inr rfl) (17 - 1) fun i hi => h i (by omega)
  have g := do_mono 17 fun i hi => ⟨(hc i hi).1, h i hi⟩
  have m := Int.mul_le_mul_of_nonneg_left f (show 0 ≤ d by omega)
  exact Int.ediv_le_ediv (by omega) (by omega)
theorem mqH_mono {c v w : Nat → Int} {d : Int} (hc : ∀ i, i < 17 → 0 ≤ c i ∧ c i ≤ 1000000) (hd : 1 ≤ d ∧ d ≤ 1000) (h : ∀ i, i < 17 → v i ≤ w i) : mqH c v 17 d ≤ mqH c w 17 d := by
  have s := sm_in 17 hc
  have f := fo_mono (.inl rfl) (17 - 1) fun i hi => h i (by omega)
  have g := do_mono 17 fun i hi => ⟨(hc i hi).1, h i hi⟩
  have m := Int.mul_le_mul_of_nonneg_left f (show 0 ≤ d by omega)
  exact ceil_le (by omega) (by omega)
theorem mq_le {c v w : Nat → Int} {d : Int} (hc : ∀ i, i < 17 → 0 ≤ c i ∧ c i ≤ 1000000) (hd : 1 ≤ d ∧ d ≤ 1000) (h : ∀ i, i < 17 → v i ≤ w i) : mqL c v 17 d ≤ mqH c w 17 d := by
  have s := sm_in 17 hc
  have f := fo_le (17 - 1) fun i hi => h i (by omega)
  have g := do_mono 17 fun i hi => ⟨(hc i hi).1, h i hi⟩
  have m := Int.mul_le_mul_of_nonneg_left f (show 0 ≤ d by omega)
  exact Int.le_trans (Int.ediv_le_ediv (by omega) (show _ ≤ d * foN mxI w (17 - 1) + doN c w 17 by omega)) (floor_ceil (by omega))
theorem mqL_nn {c v : Nat → Int} {d : Int} (hc : ∀ i, i < 17 → 0 ≤ c i ∧ c i ≤ 1000000) (hd : 1 ≤ d ∧ d ≤ 1000) (h : ∀ i, i < 17 → 0 ≤ v i ∧ v i ≤ 65536) : 0 ≤ mqL c v 17 d := by
  have s := sm_in 17 hc
  have f := mx_in (.inr rfl) (17 - 1) (v := v) (B := 65536) fun i hi => h i (by omega)
  have g := do_in 17 fun i hi => ⟨hc i hi, h i hi⟩
  have m := Int.mul_nonneg (show 0 ≤ d by omega) f.1
  exact Int.ediv_nonneg (by omega) (by omega)
theorem mqH_top {c v : Nat → Int} {d : Int} (hc : ∀ i, i < 17 → 0 ≤ c i ∧ c i ≤ 1000000) (hd : 1 ≤ d ∧ d ≤ 1000) (h : ∀ i, i < 17 → 0 ≤ v i ∧ v i ≤ 65536) : mqH c v 17 d ≤ 65536 := by
  have s := sm_in 17 hc
  have f := mx_in (.inl rfl) (17 - 1) (v := v) (B := 65536) fun i hi => h i (by omega)
  have g := do_top 17 fun i hi => ⟨(hc i hi).1, (h i hi).2⟩
  have m := Int.mul_le_mul_of_nonneg_left f.2 (show 0 ≤ d by omega)
  unfold mqH
  have : -65536 ≤ (-(d * foN mxI v (17 - 1) + doN c v 17)) / (smN c 17 + d) := (Int.le_ediv_iff_mul_le (by omega)).2 (by omega)
  omega
end Go.Proofs.Ytcbfmkfmdcabmaa

namespace Go.Proofs.Ytcbfmkfmdcabmaa
open Go.RowKit
structure OkH (h : HpI) : Prop where
  lo : 0 ≤ h.1
  le : h.1 ≤ h.2.1
  hi : h.2.1 ≤ 65536
structure LeH (a b : HpI) : Prop where
  lo : a.1 ≤ b.1
  hi : a.2.1 ≤ b.2.1
theorem LeH.refl (a : HpI) : LeH a a := ⟨Int.le_refl _, Int.le_refl _⟩
theorem LeH.trans {a b c : HpI} (h : LeH a b) (g : LeH b c) : LeH a c := ⟨Int.le_trans h.lo g.lo, Int.le_trans h.hi g.hi⟩
def loS (F : Nat → HpI) (i : Nat) : Int := (F i).1
def hiS (F : Nat → HpI) (i : Nat) : Int := (F i).2.1
def syF (d : Int) (c : List Int) (F : Nat → HpI) : HpI := (mqL (atL c) (loS F) 17 d, mqH (atL c) (hiS F) 17 d, ())
def seqH (V : RvI → GsI → HpI) (r : RvI) (e l t : Int) (i : Nat) : HpI := hpO V r e l t ((i : Int) - 8)
theorem pn_lo (V : RvI → GsI → HpI) (r : RvI) (e l t : Int) (i : Nat) (hi : i < 17) : atL ((pnL V r e l t 17).map (·.1)) i = loS (seqH V r e l t) i := by
  unfold atL pnL
  rw [List.map_map, List.getD_eq_getElem?_getD, List.getElem?_map, List.getElem?_range hi]
  rfl
theorem pn_hi (V : RvI → GsI → HpI) (r : RvI) (e l t : Int) (i : Nat) (hi : i < 17) : atL ((pnL V r e l t 17).map (·.2.1)) i = hiS (seqH V r e l t) i := by
  unfold atL pnL
  rw [List.map_map, List.getD_eq_getElem?_getD, List.getElem?_map, List.getElem?_range hi]
  rfl
theorem cnZ_17 {c : List Int} (h : C17 c) (e : Int) : C17 (cnZ e c) := by
  unfold cnZ
  cases e == 0
  · exact h
  · show C17 (c.set 8 0)
    have hl : (c.set 8 0).length = 17 := by rw [List.length_set]; exact h.len
    refine ⟨?_, hl⟩
    have h1 := h.w
    unfold cntW at h1 ⊢
    simp only [Bool.and_eq_true, Bool.not_eq_true', List.any_eq_false, List.length_set] at h1 ⊢
    refine ⟨h1.1, h1.2.1, fun i hi => ?_⟩
    have h3 := h1.2.2 i hi
    rw [List.getD_eq_getElem?_getD, List.getElem?_set]
    split
    · split
      · unfold cnO; simp
      · unfold cnO; simp
    · rw [List.getD_eq_getElem?_getD] at h3; exact h3
theorem rv1_17 {L : List (List Int)} (h : rv1 L = true) {c : List Int} (hc : c ∈ L) : C17 c := by
  obtain ⟨i, hi, rfl⟩ := List.mem_iff_getElem.1 hc
  have := (rv1_in h).2.2 i hi
  rw [List.getD_eq_getElem?_getD, List.getElem?_eq_getElem hi] at this
  exact ⟨this.1, this.2⟩
theorem op_rv {r : RvI} (h : rvB r = true) (t : Int) : rv1 (opL r t) = true := by
  obtain ⟨h1, h2, _⟩ := rvB_in h
  unfold opL
  cases t == 0
  · exact h2
  · exact h1
theorem sy_eq {V : RvI → GsI → HpI} {r : RvI} {e l t : Int} (hd : 1 ≤ r.1 ∧ r.1 ≤ 1000) {c : List Int} (hc : C17 c) (hF : ∀ i, i < 17 → OkH (seqH V r e l t i)) : syH r.1 e (pnL V r e l t 17) c = syF r.1 (cnZ e c) (seqH V r e l t) := by
  have hl : (pnL V r e l t 17).length = 17 := pnL_len ..
  have v1 : V17 ((pnL V r e l t 17).map (·.1)) := ⟨by rw [List.length_map, hl], fun i hi => by
    rw [pn_lo V r e l t i hi]
    have := hF i hi
    exact ⟨this.lo, Int.le_trans this.le this.hi⟩⟩
  have v2 : V17 ((pnL V r e l t 17).map (·.2.1)) := ⟨by rw [List.length_map, hl], fun i hi => by
    rw [pn_hi V r e l t i hi]
    have := hF i hi
    exact ⟨Int.le_trans this.lo this.le, this.hi⟩⟩
  unfold syH syF
  rw [meH_17 (cnZ_17 hc e) v1 v2 hd, mqL_congr (pn_lo V r e l t), mqH_congr (pn_hi V r e l t)]
theorem st_eq {V : RvI → GsI → HpI} {r : RvI} {e l t : Int} (hr : rvB r = true) (hF : ∀ i, i < 17 → OkH (seqH V r e l t i)) : stH V r e l t = (opL r t).map fun c => syF r.1 (cnZ e c) (seqH V r e l t) := by
  unfold stH
  exact List.map_congr_left fun c hc => sy_eq (rvB_in hr).2.2 (rv1_17 (op_rv hr t) hc) hF
theorem syF_ok {d : Int} (hd : 1 ≤ d ∧ d ≤ 1000) {c : List Int} (hc : C17 c) {F : Nat → HpI} (hF : ∀ i, i < 17 → OkH (F i)) : OkH (syF d c F) := by
  have a : ∀ i, i < 17 → 0 ≤ loS F i ∧ loS F i ≤ 65536 := fun i hi => ⟨(hF i hi).lo, Int.le_trans (hF i hi).le (hF i hi).hi⟩
  have b : ∀ i, i < 17 → 0 ≤ hiS F i ∧ hiS F i ≤ 65536 := fun i hi => ⟨Int.le_trans (hF i hi).lo (hF i hi).le, (hF i hi).hi⟩
  exact ⟨mqL_nn hc.bd hd a, mq_le hc.bd hd fun i hi => (hF i hi).le, mqH_top hc.bd hd b⟩
theorem syF_mono {d : Int} (hd : 1 ≤ d ∧ d ≤ 1000) {c : List Int} (hc : C17 c) {F G : Nat → HpI} (h : ∀ i, i < 17 → LeH (F i) (G i)) : LeH (syF d c F) (syF d c G) :=
  ⟨mqL_mono hc.bd hd fun i hi => (h i hi).lo, mqH_mono hc.bd hd fun i hi => (h i hi).hi⟩
/-! What is chosen. -/
abbrev H0 : HpI := (0, 0, ())
def chA (t : Int) (L : List HpI) (i : Nat) : HpI := ((chN (opT t) L i).1, (chN (opT t) L i).2, ())
theorem chO_at (t : Int) (L : List HpI) : chO t L = chA t L (L.length - 1) := rfl
theorem opT_or (t : Int) : (t = 0 ∧ opT t = mxI) ∨ (t ≠ 0 ∧ opT t = mnI) := by
  by_cases h : t = 0
  · subst h; exact .inl ⟨rfl, rfl⟩
  · exact .inr ⟨h, by unfold opT; rw [show (t == 0) = false from beq_eq_false_iff_ne.2 h]; rfl⟩
theorem chA_ok {t : Int} {L : List HpI} : ∀ i, (∀ j, j ≤ i → OkH (L.getD j H0)) → OkH (chA t L i)
  | 0, h => h 0 (Nat.le_refl _)
  | i + 1, h => by
    have h1 := chA_ok (t := t) i fun j hj => h j (by omega)
    have h2 := h (i + 1) (Nat.le_refl _)
    have e : chA t L (i + 1) = (opT t (chA t L i).1 (L.getD (i + 1) H0).1, opT t (chA t L i).2.1 (L.getD (i + 1) H0).2.1, ()) := rfl
    rw [e]
    generalize chA t L i = a at h1
    generalize L.getD (i + 1) H0 = b at h2
    obtain ⟨a1, a2, a3⟩ := h1
    obtain ⟨b1, b2, b3⟩ := h2
    rcases opT_or t with ⟨_, o⟩ | ⟨_, o⟩ <;> rw [o]
    · rcases mxI_or a.1 b.1 with ⟨_, e1⟩ | ⟨_, e1⟩ <;> rcases mxI_or a.2.1 b.2.1 with ⟨_, e2⟩ | ⟨_, e2⟩ <;> rw [e1, e2] <;> constructor <;> simp only [] <;> omega
    · rcases mnI_or a.1 b.1 with ⟨_, e1⟩ | ⟨_, e1⟩ <;> rcases mnI_or a.2.1 b.2.1 with ⟨_, e2⟩ | ⟨_, e2⟩ <;> rw [e1, e2] <;> constructor <;> simp only [] <;> omega
theorem opT_mono (t : Int) {a b a' b' : Int} (h1 : a ≤ a') (h2 : b ≤ b') : opT t a b ≤ opT t a' b' := by
  rcases opT_or t with ⟨_, o⟩ | ⟨_, o⟩ <;> rw [o]
  · rcases mxI_or a b with ⟨_, e1⟩ | ⟨_, e1⟩ <;> rcases mxI_or a' b' with ⟨_, e2⟩ | ⟨_, e2⟩ <;> rw [e1, e2] <;> omega
  · rcases mnI_or a b with ⟨_, e1⟩ | ⟨_, e1⟩ <;> rcases mnI_or a' b' with ⟨_, e2⟩ | ⟨_, e2⟩ <;> rw [e1, e2] <;> omega
theorem chA_mono {t : Int} {L L' : List HpI} : ∀ i, (∀ j, j ≤ i → LeH (L.getD j H0) (L'.getD j H0)) → LeH (chA t L i) (chA t L' i)
  | 0, h => h 0 (Nat.le_refl _)
  | i + 1, h => by
    have h1 := chA_mono (t := t) i fun j hj => h j (by omega)
    have h2 := h (i + 1) (Nat.le_refl _)
    exact ⟨opT_mono t h1.lo h2.lo, opT_mono t h1.hi h2.hi⟩
theorem chO_ok {t : Int} {L : List HpI} (h0 : 0 < L.length) (h : ∀ x ∈ L, OkH x) : OkH (chO t L) := by
  rw [chO_at]
  refine chA_ok _ fun j hj => ?_
  have hl : j < L.length := by omega
  rw [List.getD_eq_getElem?_getD, List.getElem?_eq_getElem hl]
  exact h _ (List.getElem_mem hl)
theorem chO_map {α : Type} {t : Int} {L : List α} {f g : α → HpI} (h : ∀ x ∈ L, LeH (f x) (g x)) (h0 : 0 < L.length) : LeH (chO t (L.map f)) (chO t (L.map g)) := by
  rw [chO_at, chO_at, List.length_map, List.length_map]
  refine chA_mono _ fun j hj => ?_
  have hl : j < L.length := by omega
  rw [List.getD_eq_getElem?_getD, List.getElem?_map, List.getElem?_eq_getElem hl, List.getD_eq_getElem?_getD, List.getElem?_map, List.getElem?_eq_getElem hl]
  exact h _ (List.getElem_mem hl)
/-! Hopes. -/
theorem su_ok (b : Bool) : OkH (suV b, suV b, ()) := by cases b <;> constructor <;> decide
theorem op_ne {r : RvI} (hr : rvB r = true) (t : Int) : 0 < (opL r t).length := by
  have := (rv1_in (op_rv hr t)).1; omega
theorem st_ok {V : RvI → GsI → HpI} {r : RvI} {e l t : Int} (hr : rvB r = true) (hF : ∀ i, i < 17 → OkH (seqH V r e l t i)) : ∀ x ∈ stH V r e l t, OkH x := by
  rw [st_eq hr hF]
  intro x hx
  obtain ⟨c, hc, rfl⟩ := List.mem_map.1 hx
  exact syF_ok (rvB_in hr).2.2 (cnZ_17 (rv1_17 (op_rv hr t) hc) e) hF
theorem st_len (V : RvI → GsI → HpI) (r : RvI) (e l t : Int) : (stH V r e l t).length = (opL r t).length := List.length_map ..
theorem hv_ok {r : RvI} (hr : rvB r = true) : ∀ (n : Nat) (e l t : Int), e = (n : Int) → stB (e, l, t, ()) = true → OkH (hv r (e, l, t, ()))
  | n, e, l, t, he, hs => by
    have hF : ∀ i, i < 17 → OkH (seqH hv r e l t i) := fun i hi => by
      unfold seqH hpO
      by_cases h0 : e > 0
      · rw [decide_eq_true h0, cond_true]
        match n, he with
        | 0, he => omega
        | n + 1, he =>
          have hb := (stB_in hs).1
          refine hv_ok hr n _ _ _ ?_ (nx_st hs h0)
          rw [nx_e h0 hb.2]; omega
      · rw [decide_eq_false h0, cond_false]
        exact su_ok _
    have hb := (stB_in hs).1
    rw [hv_eq hb.1 hb.2]
    cases e == 0 && l != 0
    · exact chO_ok (by rw [st_len]; exact op_ne hr t) (st_ok hr hF)
    · exact su_ok _
theorem seq_ok {r : RvI} (hr : rvB r = true) {e l t : Int} (hs : stB (e, l, t, ()) = true) (i : Nat) : OkH (seqH hv r e l t i) := by
  unfold seqH hpO
  by_cases h0 : e > 0
  · rw [decide_eq_true h0, cond_true]
    have h1 := nx_st (p := (i : Int) - 8) hs h0
    exact hv_ok hr (nxE e).toNat _ _ _ (by have := (stB_in h1).1.1; exact (Int.toNat_of_nonneg this).symm) h1
  · rw [decide_eq_false h0, cond_false]
    exact su_ok _
end Go.Proofs.Ytcbfmkfmdcabmaa

namespace Go.Proofs.Ytcbfmkfmdcabmaa
open Go.RowKit
theorem cl_mono {x y : Int} (h : x ≤ y) : clL x ≤ clL y := by
  unfold clL
  by_cases h1 : x < 96 <;> by_cases h2 : y < 96
  · rw [if_pos h1, if_pos h2]; split <;> split <;> omega
  · rw [if_pos h1, if_neg h2]; split <;> split <;> omega
  · omega
  · rw [if_neg h1, if_neg h2]; exact Int.le_refl _
theorem nxL_mono {l l' t p : Int} (hl : -96 ≤ l ∧ l ≤ 96) (hl' : -96 ≤ l' ∧ l' ≤ 96) (h : l ≤ l') (ht : t = 0 ∨ t = 1) (hp : -8 ≤ p ∧ p ≤ 8) : nxL l t p ≤ nxL l' t p := by
  unfold nxL
  have w1 : IntKind.i64.wrap (1 * p) = p := by rw [IntKind.wrap_i64]; omega
  have w2 : IntKind.i64.wrap (-1 * p) = -p := by rw [IntKind.wrap_i64]; omega
  rcases ht with rfl | rfl
  · show clL (IntKind.i64.wrap (l + IntKind.i64.wrap (1 * p))) ≤ clL (IntKind.i64.wrap (l' + IntKind.i64.wrap (1 * p)))
    rw [w1, i64_in (l + p) (by omega), i64_in (l' + p) (by omega)]
    exact cl_mono (by omega)
  · show clL (IntKind.i64.wrap (l + IntKind.i64.wrap (-1 * p))) ≤ clL (IntKind.i64.wrap (l' + IntKind.i64.wrap (-1 * p)))
    rw [w2, i64_in (l + -p) (by omega), i64_in (l' + -p) (by omega)]
    exact cl_mono (by omega)
theorem su_top (h : HpI) (ho : OkH h) : LeH h (suV true, suV true, ()) := ⟨Int.le_trans ho.le ho.hi, ho.hi⟩
theorem su_bot (h : HpI) (ho : OkH h) : LeH (suV false, suV false, ()) h := ⟨ho.lo, Int.le_trans ho.lo ho.le⟩
theorem st_mono {r : RvI} (hr : rvB r = true) {e l l' t : Int} (hs : stB (e, l, t, ()) = true) (hs' : stB (e, l', t, ()) = true) (h : ∀ i, i < 17 → LeH (seqH hv r e l t i) (seqH hv r e l' t i)) : LeH (chO t (stH hv r e l t)) (chO t (stH hv r e l' t)) := by
  rw [st_eq hr fun i _ => seq_ok hr hs i, st_eq hr fun i _ => seq_ok hr hs' i]
  exact chO_map (fun c hc => syF_mono (rvB_in hr).2.2 (cnZ_17 (rv1_17 (op_rv hr t) hc) e) h) (op_ne hr t)
theorem hv_lead {r : RvI} (hr : rvB r = true) : ∀ (n : Nat) (e l l' t : Int), e = (n : Int) → l ≤ l' → stB (e, l, t, ()) = true → stB (e, l', t, ()) = true → LeH (hv r (e, l, t, ())) (hv r (e, l', t, ()))
  | n, e, l, l', t, he, hll, hs, hs' => by
    have hb := stB_in hs
    have hb' := stB_in hs'
    have e0 : 0 ≤ e := hb.1.1
    have e12 : e ≤ 12 := hb.1.2
    have hF : ∀ i, i < 17 → LeH (seqH hv r e l t i) (seqH hv r e l' t i) := fun i hi => by
      unfold seqH hpO
      by_cases h0 : e > 0
      · rw [decide_eq_true h0, cond_true, cond_true]
        match n, he with
        | 0, he => omega
        | n + 1, he =>
          exact hv_lead hr n (nxE e) (nxL l t ((i : Int) - 8)) (nxL l' t ((i : Int) - 8)) (nxT t ((i : Int) - 8)) (by rw [nx_e h0 e12]; omega) (nxL_mono hb.2.1 hb'.2.1 hll hb.2.2 (by omega)) (nx_st hs h0) (nx_st hs' h0)
      · rw [decide_eq_false h0]
        exact LeH.refl _
    have hst := st_mono hr hs hs' hF
    have ok1 := hv_ok hr n e l t he hs
    have ok2 := hv_ok hr n e l' t he hs'
    have e1 := hv_eq (r := r) (l := l) (t := t) e0 e12
    have e2 := hv_eq (r := r) (l := l') (t := t) e0 e12
    cases hz : e == 0
    · rw [hz, Bool.false_and, cond_false] at e1 e2
      rw [e1, e2]; exact hst
    · rw [hz, Bool.true_and] at e1 e2
      by_cases h1 : l = 0 <;> by_cases h2 : l' = 0
      · subst h1; subst h2; exact LeH.refl _
      · rw [show (l' != 0) = true from bne_iff_ne.2 h2, cond_true, decide_eq_true (show l' > 0 by omega)] at e2
        rw [e2]; exact su_top _ ok1
      · rw [show (l != 0) = true from bne_iff_ne.2 h1, cond_true, decide_eq_false (show ¬ l > 0 by omega)] at e1
        rw [e1]; exact su_bot _ ok2
      · rw [show (l != 0) = true from bne_iff_ne.2 h1, cond_true] at e1
        rw [show (l' != 0) = true from bne_iff_ne.2 h2, cond_true] at e2
        rw [e1, e2]
        by_cases h3 : l > 0
        · rw [decide_eq_true h3, decide_eq_true (show l' > 0 by omega)]; exact LeH.refl _
        · rw [decide_eq_false h3]
          exact su_bot _ (by cases decide (l' > 0) <;> exact su_ok _)
/-! One more style. -/
theorem ch_more (t : Int) (L : List HpI) (x : HpI) (h0 : 0 < L.length) : chO t (L ++ [x]) = (opT t (chO t L).1 x.1, opT t (chO t L).2.1 x.2.1, ()) := by
  have hA : ∀ i, i < L.length → chA t (L ++ [x]) i = chA t L i := fun i => by
    induction i with
    | zero =>
      intro h
      show (((L ++ [x]).getD 0 H0).1, ((L ++ [x]).getD 0 H0).2.1, ()) = ((L.getD 0 H0).1, (L.getD 0 H0).2.1, ())
      rw [List.getD_eq_getElem?_getD, List.getElem?_append_left h, ← List.getD_eq_getElem?_getD]
    | succ i ih =>
      intro h
      have e := ih (by omega)
      have e1 : (chN (opT t) (L ++ [x]) i).1 = (chN (opT t) L i).1 := congrArg (fun h : HpI => h.1) e
      have e2 : (chN (opT t) (L ++ [x]) i).2 = (chN (opT t) L i).2 := congrArg (fun h : HpI => h.2.1) e
      show (opT t (chN (opT t) (L ++ [x]) i).1 ((L ++ [x]).getD (i + 1) H0).1, opT t (chN (opT t) (L ++ [x]) i).2 ((L ++ [x]).getD (i + 1) H0).2.1, ()) = (opT t (chN (opT t) L i).1 (L.getD (i + 1) H0).1, opT t (chN (opT t) L i).2 (L.getD (i + 1) H0).2.1, ())
      rw [e1, e2, List.getD_eq_getElem?_getD, List.getElem?_append_left h, ← List.getD_eq_getElem?_getD]
  rw [chO_at, chO_at]
  have hl : (L ++ [x]).length - 1 = (L.length - 1) + 1 := by simp; omega
  rw [hl]
  have e := hA (L.length - 1) (by omega)
  have e1 : (chN (opT t) (L ++ [x]) (L.length - 1)).1 = (chN (opT t) L (L.length - 1)).1 := congrArg (fun h : HpI => h.1) e
  have e2 : (chN (opT t) (L ++ [x]) (L.length - 1)).2 = (chN (opT t) L (L.length - 1)).2 := congrArg (fun h : HpI => h.2.1) e
  show (opT t (chN (opT t) (L ++ [x]) (L.length - 1)).1 ((L ++ [x]).getD (L.length - 1 + 1) H0).1, opT t (chN (opT t) (L ++ [x]) (L.length - 1)).2 ((L ++ [x]).getD (L.length - 1 + 1) H0).2.1, ()) = _
  rw [e1, e2, show L.length - 1 + 1 = L.length by omega, List.getD_eq_getElem?_getD, List.getElem?_append_right (Nat.le_refl _), Nat.sub_self]
  rfl
def rvM (u : Int) (d : Int) (A B : List (List Int)) (c : List Int) : RvI := bif u == 0 then (d, A ++ [c], B) else (d, A, B ++ [c])
theorem hv_more {d : Int} {A B : List (List Int)} {c : List Int} {u : Int} (hu : u = 0 ∨ u = 1) (hr : rvB (d, A, B) = true) (hr' : rvB (rvM u d A B c) = true) : ∀ (n : Nat) (e l t : Int), e = (n : Int) → stB (e, l, t, ()) = true →
    (u = 0 → LeH (hv (d, A, B) (e, l, t, ())) (hv (rvM u d A B c) (e, l, t, ()))) ∧ (u = 1 → LeH (hv (rvM u d A B c) (e, l, t, ())) (hv (d, A, B) (e, l, t, ())))
  | n, e, l, t, he, hs => by
    have hb := stB_in hs
    have e0 : 0 ≤ e := hb.1.1
    have e12 : e ≤ 12 := hb.1.2
    have hF : ∀ i, i < 17 → (u = 0 → LeH (seqH hv (d, A, B) e l t i) (seqH hv (rvM u d A B c) e l t i)) ∧ (u = 1 → LeH (seqH hv (rvM u d A B c) e l t i) (seqH hv (d, A, B) e l t i)) := fun i hi => by
      unfold seqH hpO
      by_cases h0 : e > 0
      · rw [decide_eq_true h0, cond_true, cond_true]
        match n, he with
        | 0, he => omega
        | n + 1, he => exact hv_more hu hr hr' n _ _ _ (by rw [nx_e h0 e12]; omega) (nx_st hs h0)
      · rw [decide_eq_false h0]
        exact ⟨fun _ => LeH.refl _, fun _ => LeH.refl _⟩
    have e1 := hv_eq (r := (d, A, B)) (l := l) (t := t) e0 e12
    have e2 := hv_eq (r := rvM u d A B c) (l := l) (t := t) e0 e12
    rw [e1, e2]
    cases e == 0 && l != 0
    case true => exact ⟨fun _ => LeH.refl _, fun _ => LeH.refl _⟩
    rw [cond_false, cond_false]
    have ok1 := fun i => seq_ok hr hs i
    have ok2 := fun i => seq_ok hr' hs i
    have hd := (rvB_in hr).2.2
    have hd' : (rvM u d A B c).1 = d := by unfold rvM; cases u == 0 <;> rfl
    rw [st_eq hr fun i _ => ok1 i, st_eq hr' fun i _ => ok2 i, hd']
    -- the old styles, over the new hopes
    have mid0 : u = 0 → LeH (chO t ((opL (d, A, B) t).map fun c => syF d (cnZ e c) (seqH hv (d, A, B) e l t))) (chO t ((opL (d, A, B) t).map fun c' => syF d (cnZ e c') (seqH hv (rvM u d A B c) e l t))) := fun h => chO_map (fun c' hc' => syF_mono hd (cnZ_17 (rv1_17 (op_rv hr t) hc') e) fun i hi => (hF i hi).1 h) (op_ne hr t)
    have mid1 : u = 1 → LeH (chO t ((opL (d, A, B) t).map fun c' => syF d (cnZ e c') (seqH hv (rvM u d A B c) e l t))) (chO t ((opL (d, A, B) t).map fun c => syF d (cnZ e c) (seqH hv (d, A, B) e l t))) := fun h => chO_map (fun c' hc' => syF_mono hd (cnZ_17 (rv1_17 (op_rv hr t) hc') e) fun i hi => (hF i hi).2 h) (op_ne hr t)
    have hop : opL (rvM u d A B c) t = opL (d, A, B) t ∨ (u = t ∧ opL (rvM u d A B c) t = opL (d, A, B) t ++ [c]) := by
      have ht := hb.2.2
      simp only at ht
      rcases hu with rfl | rfl <;> rcases ht with rfl | rfl
      · exact .inr ⟨rfl, rfl⟩
      · exact .inl rfl
      · exact .inl rfl
      · exact .inr ⟨rfl, rfl⟩
    rcases hop with hop | ⟨hut, hop⟩
    · rw [hop]
      exact ⟨mid0, mid1⟩
    · rw [hop, List.map_append, List.map_cons, List.map_nil, ch_more t _ _ (by rw [List.length_map]; exact op_ne hr t)]
      subst hut
      refine ⟨fun h => (mid0 h).trans ?_, fun h => LeH.trans ?_ (mid1 h)⟩
      · subst h
        constructor
        · show _ ≤ mxI _ _
          rcases mxI_or (chO 0 ((opL (d, A, B) 0).map fun c' => syF d (cnZ e c') (seqH hv (rvM 0 d A B c) e l 0))).1 (syF d (cnZ e c) (seqH hv (rvM 0 d A B c) e l 0)).1 with ⟨_, e'⟩ | ⟨_, e'⟩ <;> rw [e'] <;> omega
        · show _ ≤ mxI _ _
          rcases mxI_or (chO 0 ((opL (d, A, B) 0).map fun c' => syF d (cnZ e c') (seqH hv (rvM 0 d A B c) e l 0))).2.1 (syF d (cnZ e c) (seqH hv (rvM 0 d A B c) e l 0)).2.1 with ⟨_, e'⟩ | ⟨_, e'⟩ <;> rw [e'] <;> omega
      · subst h
        constructor
        · show mnI _ _ ≤ _
          rcases mnI_or (chO 1 ((opL (d, A, B) 1).map fun c' => syF d (cnZ e c') (seqH hv (rvM 1 d A B c) e l 1))).1 (syF d (cnZ e c) (seqH hv (rvM 1 d A B c) e l 1)).1 with ⟨_, e'⟩ | ⟨_, e'⟩ <;> rw [e'] <;> omega
        · show mnI _ _ ≤ _
          rcases mnI_or (chO 1 ((opL (d, A, B) 1).map fun c' => syF d (cnZ e c') (seqH hv (rvM 1 d A B c) e l 1))).2.1 (syF d (cnZ e c) (seqH hv (rvM 1 d A B c) e l 1)).2.1 with ⟨_, e'⟩ | ⟨_, e'⟩ <;> rw [e'] <;> omega
end Go.Proofs.Ytcbfmkfmdcabmaa
