/- Parts of the proof, in build order. -/
import Derived.Test.YtjfopfhkfmknlaaM9
namespace Go.Proofs.Ytjfopfhkfmknlaa
open Go.RowKit
/-! No doubts. -/
theorem no_doubt {l : List SnI} {b : List RdI} (h : doL l b = []) {i k : Nat} (hik : i < k) (hk : k < l.length) : doB l b i k = false := by
  unfold doL doN at h
  rw [List.flatMap_eq_nil_iff] at h
  have h1 := h i (List.mem_range.2 (by omega))
  unfold doI at h1
  rw [List.map_eq_nil_iff, List.filter_eq_nil_iff] at h1
  have h2 := h1 (k - (i + 1)) (List.mem_range.2 (by omega))
  rw [show i + 1 + (k - (i + 1)) = k by omega] at h2
  cases hd : doB l b i k
  · rfl
  · exact absurd hd h2
theorem nr_zero (a b : RdI) : nrR a b = 0 ↔ ¬ a.hi < b.lo ∧ ¬ b.hi < a.lo := by
  unfold nrR
  by_cases h1 : a.hi < b.lo
  · rw [decide_eq_true h1]; simp [h1]
  · rw [decide_eq_false h1]
    by_cases h2 : b.hi < a.lo
    · rw [decide_eq_true h2]; simp [h2]
    · rw [decide_eq_false h2]; simp [h1, h2]
theorem ho_in {a : RdI} (h : a.hi ≤ 129368064) : hoR a = 1 := by
  unfold hoR; rw [decide_eq_true h]; rfl
theorem apart {l : List SnI} {b : List RdI} (h : doL l b = []) {i k : Nat} (hi : i < l.length) (hk : k < l.length) (ht : (l.getD i snD).1 ≠ (l.getD k snD).1) (h1 : (b.getD i rdD).hi ≤ 129368064) (h2 : (b.getD k rdD).hi ≤ 129368064) : (b.getD i rdD).hi < (b.getD k rdD).lo ∨ (b.getD k rdD).hi < (b.getD i rdD).lo := by
  have go : ∀ i k, i < k → k < l.length → (l.getD i snD).1 ≠ (l.getD k snD).1 → (b.getD i rdD).hi ≤ 129368064 → (b.getD k rdD).hi ≤ 129368064 → (b.getD i rdD).hi < (b.getD k rdD).lo ∨ (b.getD k rdD).hi < (b.getD i rdD).lo := fun i k hik hk ht h1 h2 => by
    have hd := no_doubt h hik hk
    unfold doB at hd
    rw [ho_in h1, ho_in h2] at hd
    have e1 : ((l.getD i snD).1 != (l.getD k snD).1) = true := by rw [bne_iff_ne]; exact ht
    rw [e1] at hd
    have hn : nrR (b.getD i rdD) (b.getD k rdD) ≠ 0 := fun e => by rw [e] at hd; exact absurd hd (by decide)
    have := mt (nr_zero _ _).2 hn
    omega
  rcases Nat.lt_trichotomy i k with h' | h' | h'
  · exact go i k h' hk ht h1 h2
  · subst h'; exact absurd rfl ht
  · exact (go k i h' hi (Ne.symm ht) h2 h1).symm
/-! One more reading. -/
theorem rds_more {n : Int} {r : List RdI} {m : RdI} (h : rdsB n (r ++ [m]) = true) : rdsB n r = true := by
  unfold rdsB at h ⊢
  rw [List.any_append, Bool.not_eq_true', Bool.or_eq_false_iff] at h
  rw [h.1]; rfl
theorem err_more {l : List SnI} {r : List RdI} {m : RdI} (h : bdsE l (r ++ [m]) = 0) (h0 : bdsE l r ≠ 0) : bdsE l r = 7 := by
  unfold bdsE bndE at h h0 ⊢
  cases q1 : decide ((r ++ [m]).length ≤ 256)
  · rw [q1] at h; cases h
  rw [q1] at h
  have q1' : r.length ≤ 256 := by
    rw [decide_eq_true_eq, List.length_append] at q1; omega
  rw [decide_eq_true q1'] at h0 ⊢
  cases q2 : snsB l
  · rw [q2] at h; cases h
  rw [q2] at h
  rw [q2] at h0
  simp only [cond_true] at h h0 ⊢
  cases q3 : nB (l.length : Int) && rdsB (l.length : Int) (r ++ [m])
  · rw [q3] at h; cases h
  rw [Bool.and_eq_true] at q3
  rw [q3.1, rds_more q3.2] at h0 ⊢
  cases q4 : bndC (l.length : Int).toNat r
  · rw [q4] at h0; exact absurd rfl h0
  · rfl
theorem lo_more (r : List RdI) (m : RdI) (k : Nat) : bLo r k ≤ bLo (r ++ [m]) k := by
  rw [bLo_add]; split <;> omega
theorem hi_more (r : List RdI) (m : RdI) (k : Nat) : bHi (r ++ [m]) k ≤ bHi r k := by
  rw [bHi_add]; split <;> omega
theorem get_more (n : Nat) (r : List RdI) (m : RdI) {k : Nat} (hk : k < n) : ((bndM n r).getD k rdD).lo ≤ ((bndM n (r ++ [m])).getD k rdD).lo ∧ ((bndM n (r ++ [m])).getD k rdD).hi ≤ ((bndM n r).getD k rdD).hi := by
  rw [bndM_get _ _ hk, bndM_get _ _ hk]
  exact ⟨lo_more r m k, hi_more r m k⟩
theorem more_in {l : List SnI} {r : List RdI} {m : RdI} (h : bdsE l r = 0) (h' : bdsE l (r ++ [m]) = 0) {q : ScI} (hq : q ∈ scR l (r ++ [m])) : q ∈ scR l r := by
  obtain ⟨_, _, _, h4, _, h6⟩ := no_err h'
  have e1 : scR l r = scL (tmL l (bndM l.length r) 0) (tmL l (bndM l.length r) 1) := by unfold scR; rw [h]; rfl
  have e2 : scR l (r ++ [m]) = scL (tmL l (bndM l.length (r ++ [m])) 0) (tmL l (bndM l.length (r ++ [m])) 1) := by unfold scR; rw [h']; rfl
  rw [e2] at hq
  rw [e1]
  obtain ⟨d, _, hd, e⟩ := score_of (fun k hk => (h6 k hk).2.1) h4 hq
  rw [← e]
  refine score_in (fun k hk => ?_) h4
  have := hd k hk
  have := get_more l.length r m hk
  omega
theorem some_score {l : List SnI} {r : List RdI} (h : bdsE l r = 0) : 0 < (scR l r).length := by
  obtain ⟨_, _, _, h4, _, h6⟩ := no_err h
  have e1 : scR l r = scL (tmL l (bndM l.length r) 0) (tmL l (bndM l.length r) 1) := by unfold scR; rw [h]; rfl
  rw [e1]
  have d0 : dIn l (bndM l.length r) ((List.range l.length).map fun k => ((bndM l.length r).getD k rdD).lo) := fun k hk => by
    rw [range_get _ _ hk]; exact ⟨Int.le_refl _, (h6 k hk).2.1⟩
  exact List.length_pos_of_mem (score_in d0 h4)
theorem ho_pos (a : RdI) (h : a.lo ≤ a.hi) : decide (hoR a ≥ 0) = decide (a.lo ≤ 129368064) := by
  unfold hoR
  by_cases h1 : a.hi ≤ 129368064
  · rw [decide_eq_true h1, decide_eq_true (show a.lo ≤ 129368064 by omega)]; rfl
  · rw [decide_eq_false h1]
    by_cases h2 : a.lo > 129368064
    · rw [decide_eq_true h2, decide_eq_false (show ¬ a.lo ≤ 129368064 by omega)]; rfl
    · rw [decide_eq_false h2, decide_eq_true (show a.lo ≤ 129368064 by omega)]; rfl
theorem do_more {l : List SnI} {r : List RdI} {m : RdI} (h : bdsE l r = 0) (h' : bdsE l (r ++ [m]) = 0) : (doR l (r ++ [m])).length ≤ (doR l r).length := by
  obtain ⟨_, _, _, _, _, g6⟩ := no_err h
  obtain ⟨_, _, _, h4, _, h6⟩ := no_err h'
  have e1 : doR l r = doL l (bndM l.length r) := by unfold doR; rw [h]; rfl
  have e2 : doR l (r ++ [m]) = doL l (bndM l.length (r ++ [m])) := by unfold doR; rw [h']; rfl
  rw [e1, e2]
  have hB : ∀ i k, i < l.length → k < l.length → doB l (bndM l.length (r ++ [m])) i k = true → doB l (bndM l.length r) i k = true := fun i k hi hk hd => by
    unfold doB at hd ⊢
    rw [ho_pos _ (h6 i hi).2.1, ho_pos _ (h6 k hk).2.1] at hd
    rw [ho_pos _ (g6 i hi).2.1, ho_pos _ (g6 k hk).2.1]
    simp only [Bool.and_eq_true, decide_eq_true_eq, beq_iff_eq] at hd ⊢
    obtain ⟨q1, q2, q3, q4⟩ := hd
    rw [nr_zero] at q2 ⊢
    have a1 := get_more l.length r m hi
    have a2 := get_more l.length r m hk
    exact ⟨q1, by omega, by omega, by omega⟩
  unfold doL
  have hI : ∀ i, i < l.length → (doI l (bndM l.length (r ++ [m])) i (l.length - (i + 1))).length ≤ (doI l (bndM l.length r) i (l.length - (i + 1))).length := fun i hi => by
    unfold doI
    rw [List.length_map, List.length_map, ← List.countP_eq_length_filter, ← List.countP_eq_length_filter]
    refine List.countP_mono_left fun j hj hp => hB i (i + 1 + j) hi ?_ hp
    have := List.mem_range.1 hj
    omega
  have go : ∀ i, i ≤ l.length → (doN l (bndM l.length (r ++ [m])) l.length i).length ≤ (doN l (bndM l.length r) l.length i).length := fun i => by
    induction i with
    | zero => intro _; exact Nat.le_refl _
    | succ i ih =>
      intro hi
      rw [doN_succ, doN_succ, List.length_append, List.length_append]
      exact Nat.add_le_add (ih (by omega)) (hI i (by omega))
  exact go l.length (Nat.le_refl _)
end Go.Proofs.Ytjfopfhkfmknlaa

namespace Go.Proofs.Ytjfopfhkfmknlaa
open Go.RowKit
/-! One more reading. -/
theorem mo_run {α : Type} {L M : List ScI} (hM : ∀ q ∈ M, q ∈ L) (hl : M.length ≤ 40) (R : Option α) (K : Nat → Int × Unit → Option α) : afterL (iterL 50 (moF L M R) (0, ())) K = K 0 ((M.length : Int), ()) := by
  have hmx : M.length ≤ maxLen := by have : maxLen = 9223372036854775807 := rfl; omega
  refine (count_loop (f := moF L M R) (fun i => ((i : Int), ())) M.length (fun i hi => ?_) (y := ((M.length : Int), ())) (b := 0) ?_ (by omega)).trans rfl
  · unfold moF
    simp only [lt_len hi, cond_true, in_len hi, if_pos, and_self, Int.toNat_natCast, wrap_next hi hmx]
    have hq : M.getD i (0, 0, ()) ∈ M := by
      rw [List.getD_eq_getElem?_getD, List.getElem?_eq_getElem hi]; exact List.getElem_mem hi
    have : haB L ((M.getD i (0, 0, ())).1, (M.getD i (0, 0, ())).2.1, ()) = true := (haB_iff _ _).2 (hM _ hq)
    rw [this]; rfl
  · unfold moF; simp only [not_lt_len, cond_false]
theorem scR_len (l : List SnI) (r : List RdI) : (scR l r).length ≤ 33 := by
  unfold scR
  cases bdsE l r == 0
  · exact Nat.zero_le _
  · exact scL_len _ _
theorem mmo_true (l : List SnI) (r : List RdI) (a b c : Int) : evFn real tab ((twY fsV0 spM9).env real tab 50 12) 50 Try.f7 AOut [.ro SnSh l, .ro RdSh r, .agg [.int .i64 a, .int .i64 b, .int .i64 c]] some = some (b1 true) := by
  refine (mmo_text 50 0 AOut l r a b c some).trans ?_
  cases decide ((l.length : Int) > 20)
  case true => rfl
  by_cases h300 : r.length ≤ 300
  case neg => rw [decide_eq_true (show (r.length : Int) > 300 by omega)]; rfl
  rw [decide_eq_false (show ¬ (r.length : Int) > 300 by omega), cond_false, cond_false]
  have r1 : ((List.nil (α := Int)).length + r.length) * 24 ≤ room := by simp only [room, List.length_nil]; omega
  have r2 : (([] ++ r).length + [(a, b, c, ())].length) * 24 ≤ room := by simp only [room, List.nil_append, List.length_cons, List.length_nil]; omega
  rw [if_pos r1, if_pos r2, if_pos r1, if_pos r2, List.nil_append]
  by_cases h' : bdsE l (r ++ [(a, b, c, ())]) = 0
  · by_cases h : bdsE l r = 0
    · rw [h, h']
      refine (mo_run (fun q hq => more_in h h' hq) (by have := scR_len l (r ++ [(a, b, c, ())]); omega) _ _).trans ?_
      have hp := some_score h'
      have hd := do_more h h'
      rw [if_pos rfl, decide_eq_true (show ((scR l (r ++ [(a, b, c, ())])).length : Int) > 0 by omega), decide_eq_true (show ((doR l (r ++ [(a, b, c, ())])).length : Int) ≤ ((doR l r).length : Int) by omega)]
      rfl
    · have h1 : (bdsE l r != 0) = true := by simpa using h
      have h2 := err_more h' h
      rw [h1, h', h2]; rfl
  · have h1 : (bdsE l (r ++ [(a, b, c, ())]) != 0) = true := by simpa using h'
    rw [h1]
    cases bdsE l r != 0 <;> rfl
def mmoF : List AVal → Option AOut
  | [.ro (.recd (.cons (.int .i64) (.cons (.int .i64) (.cons (.recd (.cons (.int .i64) (.cons (.int .i64) .nil))) .nil)))) _, .ro (.recd (.cons (.int .i64) (.cons (.int .i64) (.cons (.int .i64) .nil)))) _, .agg [.int .i64 _, .int .i64 _, .int .i64 _]] => some (b1 true)
  | _ => none
theorem mmo_ok : FspOk Try.prog 7 (toFsp mmoF) := tower_Y fsV0_ok spM9_ok ⟨Try.func7, fun _ _ => by kernel_rfl⟩ (toFsp_nat _) fun args out hSm hq => by
  have h := toFsp_some hq
  unfold mmoF at h
  split at h
  · rename_i l r a b c
    exact ⟨50, 12, (mmo_true l r a b c).trans h⟩
  · cases h
end Go.Proofs.Ytjfopfhkfmknlaa
