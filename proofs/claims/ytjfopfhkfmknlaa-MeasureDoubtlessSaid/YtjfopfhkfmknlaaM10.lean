/- Parts of the proof, in build order. -/
import Derived.Test.YtjfopfhkfmknlaaM9
namespace Go.Proofs.Ytjfopfhkfmknlaa
open Go.RowKit
/-! No doubts. -/
theorem no_doubt {l : List SnI} {b : List RdI} (h : doL l b = []) {i k : Nat} (hik : i < k) (hk : k < l.length) : doB l b i k = false := by
  unfold doL doN at h
  rw [List.flatMap_eq_nil_iff] at h
  have h1 := h i (List.mem_range.2 (by omega))
  unfold doI at h1
  rw [List.map_eq_nil_iff, List.filter_eq_nil_iff] at h1
  have h2 := h1 (k - (i + 1)) (List.mem_range.2 (by omega))
  rw [show i + 1 + (k - (i + 1)) = k by omega] at h2
  cases hd : doB l b i k
  · rfl
  · exact absurd hd h2
theorem nr_zero (a b : RdI) : nrR a b = 0 ↔ ¬ a.hi < b.lo ∧ ¬ b.hi < a.lo := by
  unfold nrR
  by_cases h1 : a.hi < b.lo
  · rw [decide_eq_true h1]; simp [h1]
  · rw [decide_eq_false h1]
    by_cases h2 : b.hi < a.lo
    · rw [decide_eq_true h2]; simp [h2]
    · rw [decide_eq_false h2]; simp [h1, h2]
theorem ho_in {a : RdI} (h : a.hi ≤ 129368064) : hoR a = 1 := by
  unfold hoR; rw [decide_eq_true h]; rfl
theorem ho_known {a : RdI} (h : hoR a ≠ 0) : a.hi ≤ 129368064 ∨ 129368064 < a.lo := by
  unfold hoR at h
  by_cases h1 : a.hi ≤ 129368064
  · exact .inl h1
  · rw [decide_eq_false h1, cond_false] at h
    by_cases h2 : a.lo > 129368064
    · exact .inr h2
    · rw [decide_eq_false h2] at h; exact absurd rfl h
theorem apart {l : List SnI} {b : List RdI} (h : doL l b = []) {i k : Nat} (hi : i < l.length) (hk : k < l.length) (ht : (l.getD i snD).1 ≠ (l.getD k snD).1) (h1 : (b.getD i rdD).hi ≤ 129368064) (h2 : (b.getD k rdD).hi ≤ 129368064) : (b.getD i rdD).hi < (b.getD k rdD).lo ∨ (b.getD k rdD).hi < (b.getD i rdD).lo := by
  have go : ∀ i k, i < k → k < l.length → (l.getD i snD).1 ≠ (l.getD k snD).1 → (b.getD i rdD).hi ≤ 129368064 → (b.getD k rdD).hi ≤ 129368064 → (b.getD i rdD).hi < (b.getD k rdD).lo ∨ (b.getD k rdD).hi < (b.getD i rdD).lo := fun i k hik hk ht h1 h2 => by
    have hd := no_doubt h hik hk
    unfold doB at hd
    rw [ho_in h1, ho_in h2] at hd
    have e1 : ((l.getD i snD).1 != (l.getD k snD).1) = true := by rw [bne_iff_ne]; exact ht
    rw [e1] at hd
    have hn : nrR (b.getD i rdD) (b.getD k rdD) ≠ 0 := fun e => by rw [e] at hd; exact absurd hd (by decide)
    have := mt (nr_zero _ _).2 hn
    omega
  rcases Nat.lt_trichotomy i k with h' | h' | h'
  · exact go i k h' hk ht h1 h2
  · subst h'; exact absurd rfl ht
  · exact (go k i h' hi (Ne.symm ht) h2 h1).symm
def winB (l : List SnI) (b : List RdI) (t o : Int) (k : Nat) : Bool := (l.getD k snD).1 == t && (decide ((b.getD k rdD).hi ≤ 129368064) && (List.range l.length).all fun j => !((l.getD j snD).1 == o && decide ((b.getD j rdD).hi ≤ 129368064)) || decide ((b.getD k rdD).hi < (b.getD j rdD).lo))
theorem win_eq {l : List SnI} {b : List RdI} {d : List Int} (hin : dIn l b d) (hno : doL l b = []) (hkn : ∀ k, k < l.length → hoR (b.getD k rdD) ≠ 0) {t o : Int} (hto : t ≠ o) : dsC l d t (dsM l d o l.length) l.length = (List.range l.length).countP (winB l b t o) := by
  unfold dsC
  refine List.countP_congr fun k hk => ?_
  have hk := List.mem_range.1 hk
  unfold winB
  rw [Bool.and_eq_true, Bool.and_eq_true, Bool.and_eq_true, decide_eq_true_eq, decide_eq_true_eq, beq_iff_eq, List.all_eq_true]
  refine and_congr_right fun ht => ?_
  obtain ⟨m1, m2, m3⟩ := dsM_le l d o l.length
  have ik := hin k hk
  have kk := ho_known (hkn k hk)
  constructor
  · intro hlt
    have h1 : (b.getD k rdD).hi ≤ 129368064 := by
      rcases kk with h | h
      · exact h
      · omega
    refine ⟨h1, fun j hj => ?_⟩
    have hj := List.mem_range.1 hj
    rw [Bool.or_eq_true, Bool.not_eq_true', decide_eq_true_eq]
    cases hc : (l.getD j snD).1 == o && decide ((b.getD j rdD).hi ≤ 129368064)
    · exact .inl rfl
    · right
      rw [Bool.and_eq_true, beq_iff_eq, decide_eq_true_eq] at hc
      have := m2 j hj hc.1
      have ij := hin j hj
      rcases apart hno hk hj (by rw [ht, hc.1]; exact hto) h1 hc.2 with h | h
      · exact h
      · omega
  · rintro ⟨h1, h2⟩
    rcases m3 with e | ⟨j, j1, j2, j3⟩
    · omega
    · have ij := hin j j1
      have := h2 j (List.mem_range.2 j1)
      rw [Bool.or_eq_true, Bool.not_eq_true', decide_eq_true_eq] at this
      rcases ho_known (hkn j j1) with h | h
      · rcases this with h3 | h3
        · rw [Bool.and_eq_false_iff] at h3
          rcases h3 with h3 | h3
          · rw [j2] at h3; simp at h3
          · rw [decide_eq_false_iff_not] at h3; exact absurd h h3
        · omega
      · omega
theorem pos_iff {l : List SnI} {d : List Int} {t o : Int} : dsM l d t l.length < dsM l d o l.length ↔ 0 < dsC l d t (dsM l d o l.length) l.length := by
  constructor
  · intro h
    exact count_pos h (dsM_le l d o l.length).1
  · intro h
    unfold dsC at h
    obtain ⟨k, hk, hp⟩ := List.countP_pos_iff.1 h
    rw [Bool.and_eq_true, decide_eq_true_eq, beq_iff_eq] at hp
    have := (dsM_le l d t l.length).2.1 k (List.mem_range.1 hk) hp.1
    omega
theorem dsS_same {l : List SnI} {b : List RdI} {d d' : List Int} (h : dIn l b d) (h' : dIn l b d') (hno : doL l b = []) (hkn : ∀ k, k < l.length → hoR (b.getD k rdD) ≠ 0) : dsS l d = dsS l d' := by
  have a0 := (win_eq h hno hkn (t := 0) (o := 1) (by decide)).trans (win_eq h' hno hkn (t := 0) (o := 1) (by decide)).symm
  have a1 := (win_eq h hno hkn (t := 1) (o := 0) (by decide)).trans (win_eq h' hno hkn (t := 1) (o := 0) (by decide)).symm
  have p0 := pos_iff (l := l) (d := d) (t := 0) (o := 1)
  have p1 := pos_iff (l := l) (d := d) (t := 1) (o := 0)
  have q0 := pos_iff (l := l) (d := d') (t := 0) (o := 1)
  have q1 := pos_iff (l := l) (d := d') (t := 1) (o := 0)
  have e1 : (dsM l d 0 l.length == dsM l d 1 l.length) = (dsM l d' 0 l.length == dsM l d' 1 l.length) := by
    rw [Bool.eq_iff_iff, beq_iff_eq, beq_iff_eq]
    omega
  have e2 : decide (dsM l d 1 l.length < dsM l d 0 l.length) = decide (dsM l d' 1 l.length < dsM l d' 0 l.length) := decide_eq_decide.2 (by omega)
  unfold dsS
  rw [e1, e2, a0, a1]
theorem one_score {l : List SnI} {r : List RdI} (h : bdsE l r = 0) (hno : doR l r = []) (hkn : ∀ k, k < l.length → hoR ((bndM l.length r).getD k rdD) ≠ 0) : (scR l r).length = 1 := by
  obtain ⟨_, _, _, h4, _, h6⟩ := no_err h
  have h2 : (bdsE l r == 0) = true := by simpa using h
  have eR : doR l r = doL l (bndM l.length r) := by unfold doR; rw [h2]; rfl
  rw [eR] at hno
  have eS : scR l r = scL (tmL l (bndM l.length r) 0) (tmL l (bndM l.length r) 1) := by unfold scR; rw [h2]; rfl
  have hb : ∀ k, k < l.length → ((bndM l.length r).getD k rdD).lo ≤ ((bndM l.length r).getD k rdD).hi := fun k hk => (h6 k hk).2.1
  have d0 : dIn l (bndM l.length r) ((List.range l.length).map fun k => ((bndM l.length r).getD k rdD).lo) := fun k hk => by
    rw [range_get _ _ hk]; exact ⟨Int.le_refl _, hb k hk⟩
  have hm := score_in d0 h4
  have all : ∀ q ∈ scL (tmL l (bndM l.length r) 0) (tmL l (bndM l.length r) 1), q = dsS l ((List.range l.length).map fun k => ((bndM l.length r).getD k rdD).lo) := fun q hq => by
    obtain ⟨d, _, hd, e⟩ := score_of hb h4 hq
    rw [← e]
    exact dsS_same hd d0 hno hkn
  rw [eS]
  have hs := scL_sorted (tmL l (bndM l.length r) 0) (tmL l (bndM l.length r) 1)
  generalize scL (tmL l (bndM l.length r) 0) (tmL l (bndM l.length r) 1) = L at hm all hs
  match L, hm, all, hs with
  | [x], _, _, _ => rfl
  | x :: y :: L, _, all, hs =>
    have e1 := all x List.mem_cons_self
    have e2 := all y (List.mem_cons_of_mem _ List.mem_cons_self)
    have := (List.pairwise_cons.1 hs).1 y List.mem_cons_self
    rw [e1, e2, scLt_iff] at this
    omega
/-! One more reading. -/
end Go.Proofs.Ytjfopfhkfmknlaa

namespace Go.Proofs.Ytjfopfhkfmknlaa
open Go.RowKit
def knN (b : List RdI) (i : Nat) : Bool := (List.range i).all fun k => hoR (b.getD k rdD) != 0
theorem knN_succ (b : List RdI) (i : Nat) : knN b (i + 1) = (knN b i && (hoR (b.getD i rdD) != 0)) := by
  unfold knN
  rw [List.range_succ, List.all_append]
  simp
theorem dl_run {α : Type} {b : List RdI} (hg : rgAll b) (hb : b.length ≤ 16) (K : Nat → Bool × Int × Unit → Option α) : afterL (iterL 20 (dlF b) (true, 0, ())) K = K 0 (knN b b.length, (b.length : Int), ()) := by
  have hmx : b.length ≤ maxLen := by have : maxLen = 9223372036854775807 := rfl; omega
  refine (count_loop (f := dlF b) (fun i => (knN b i, (i : Int), ())) b.length (fun i hi => ?_) (y := (knN b b.length, (b.length : Int), ())) (b := 0) ?_ (by omega)).trans rfl
  · unfold dlF
    rw [knN_succ]
    simp only [lt_len hi, cond_true, in_len hi, if_pos, and_self, wrap_next hi hmx]
    rw [rdE_at]
    have e1 : hoA (b.getD i rdD) = hoR (b.getD i rdD) := by unfold hoA; rw [hg i hi]; rfl
    have e2 : hoE (b.getD i rdD) = 0 := by unfold hoE; rw [hg i hi]; rfl
    rw [e1, e2]
    cases knN b i <;> cases hoR (b.getD i rdD) != 0 <;> rfl
  · unfold dlF; simp only [not_lt_len, cond_false]
theorem mdl_true (l : List SnI) (r : List RdI) : evFn real tab ((twY fsV0 spM9).env real tab 20 12) 20 Try.f8 AOut [.ro SnSh l, .ro RdSh r] some = some (b1 true) := by
  refine (mdl_text 20 0 AOut l r some).trans ?_
  cases decide ((l.length : Int) > 20)
  case true => rfl
  cases decide ((r.length : Int) > 300)
  case true => rfl
  by_cases h : bdsE l r = 0
  · obtain ⟨_, f1, f2, f3, f4, _⟩ := no_err h
    rw [h, f1, f2]
    refine (dl_run f4 (by rw [bndM_len]; exact f3) _).trans ?_
    rw [if_pos rfl, bndM_len]
    cases hk : knN (bndM l.length r) l.length
    · rfl
    · show (bif decide (((doR l r).length : Int) > 0) then some (b1 true) else some (b1 (ptB l r))) = _
      by_cases hd : (doR l r).length = 0
      · have hone := one_score h (List.length_eq_zero_iff.1 hd) fun k hkl => by
          unfold knN at hk
          rw [List.all_eq_true] at hk
          have := hk k (List.mem_range.2 hkl)
          rwa [bne_iff_ne] at this
        have hp : ptB l r = true := by unfold ptB; rw [h, hone]; rfl
        rw [hp, decide_eq_false (show ¬ ((doR l r).length : Int) > 0 by omega)]; rfl
      · rw [decide_eq_true (show ((doR l r).length : Int) > 0 by omega)]; rfl
  · have h1 : (bdsE l r != 0) = true := by simpa using h
    have h2 : (bdsE l r == bdsE l r) = true := by simp
    rw [h1, h2]; rfl
def mdlF : List AVal → Option AOut
  | [.ro (.recd (.cons (.int .i64) (.cons (.int .i64) (.cons (.recd (.cons (.int .i64) (.cons (.int .i64) .nil))) .nil)))) _, .ro (.recd (.cons (.int .i64) (.cons (.int .i64) (.cons (.int .i64) .nil)))) _] => some (b1 true)
  | _ => none
theorem mdl_ok : FspOk Try.prog 8 (toFsp mdlF) := tower_Y fsV0_ok spM9_ok ⟨Try.func8, fun _ _ => by kernel_rfl⟩ (toFsp_nat _) fun args out hSm hq => by
  have h := toFsp_some hq
  unfold mdlF at h
  split at h
  · rename_i l r
    exact ⟨20, 12, (mdl_true l r).trans h⟩
  · cases h
/-! One more reading. -/
end Go.Proofs.Ytjfopfhkfmknlaa
