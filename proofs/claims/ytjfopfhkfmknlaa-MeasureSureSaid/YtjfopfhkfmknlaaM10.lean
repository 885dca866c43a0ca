/- Parts of the proof, in build order. -/
import Derived.Test.YtjfopfhkfmknlaaM9
import Derived.Test.YtjfopfhkfmknlaaM8
namespace Go.Proofs.Ytjfopfhkfmknlaa
open Go.RowKit
theorem su_facts {l : List SnI} {r : List RdI} {p : List Int} (hp : ∀ n ∈ p, 0 ≤ n ∧ n ≤ 65535) (h : bdsE l r = 0) : bndE (l.length : Int) r = 0 ∧ bndR (l.length : Int) r = bndM l.length r ∧ l.length ≤ 16 ∧ rgAll (bndM l.length r) ∧ dIn l (bndM l.length r) (wiL (bndM l.length r) p) ∧ (wiL (bndM l.length r) p).length = l.length ∧
    dsB l (wiL (bndM l.length r) p) = true ∧ dsS l (wiL (bndM l.length r) p) ∈ scR l r := by
  obtain ⟨h1, h2, h3, h4, h5, h6⟩ := no_err h
  obtain ⟨w1, w2⟩ := wi_dIn (bndM_len _ _) h6 hp
  refine ⟨h2, h3, h4, h5, w1, w2, ?_, ?_⟩
  · unfold dsB; rw [h1, w2, decide_eq_true rfl]; rfl
  · have e : scR l r = scL (tmL l (bndM l.length r) 0) (tmL l (bndM l.length r) 1) := by unfold scR; rw [h]; rfl
    rw [e]
    exact score_in w1 h4
theorem su_true {l : List SnI} {r : List RdI} {p : List Int} (hp : ∀ n ∈ p, 0 ≤ n ∧ n ≤ 65535) : ∃ q, evFn real tab ((twY (fsU0 q) spM8).env real tab 20 12) 20 Try.f5 AOut [.ro SnSh l, .ro RdSh r, .ro (.int .u16) p] some = some (b1 true) := by
  have e0 : ∀ x : Int, (x != 0) = !(x == 0) := fun _ => rfl
  cases hq : ptB l r
  · refine ⟨false, (msu_textF 20 0 AOut l r p some).trans ?_⟩
    unfold suZ
    cases decide ((l.length : Int) > 20)
    case true => rfl
    cases decide ((r.length : Int) > 300)
    case true => rfl
    cases decide ((p.length : Int) > 100)
    case true => rfl
    rw [hq]
    by_cases h : bdsE l r = 0
    · obtain ⟨f1, f2, f3, f4, f5, f6, f7, f8⟩ := su_facts hp h
      have hl := sc_len1 h
      rw [hq] at hl
      have hm : (((bndM l.length r).length : Int) != (l.length : Int)) = false := by rw [bndM_len]; simp
      have h8 := (haB_iff _ _).2 f8
      have h8' : haB (scR l r) ((dsS l (wiL (bndM l.length r) p)).1, (dsS l (wiL (bndM l.length r) p)).2.1, ()) = true := h8
      rw [h, f2, f1, hm, bndM_len, decide_eq_true f3, f7, h8', ← hl]
      exact suL_true (bndM_len _ _) f6 f3 f4 f5 some
    · have h1 : (bdsE l r != 0) = true := by simpa using h
      have e1 : scR l r = [] := by
        have : (bdsE l r == 0) = false := by simpa using h
        unfold scR; rw [this]; rfl
      rw [h1, e1]
      have : (bdsE l r == bdsE l r) = true := by simp
      rw [this]; rfl
  · refine ⟨true, (msu_textT 20 0 AOut l r p some).trans ?_⟩
    unfold suY
    cases decide ((l.length : Int) > 20)
    case true => rfl
    cases decide ((r.length : Int) > 300)
    case true => rfl
    cases decide ((p.length : Int) > 100)
    case true => rfl
    rw [hq]
    have h : bdsE l r = 0 := by
      unfold ptB at hq
      rw [Bool.and_eq_true] at hq
      simpa using hq.1
    obtain ⟨f1, f2, f3, f4, f5, f6, f7, f8⟩ := su_facts hp h
    have hl := sc_len1 h
    rw [hq] at hl
    have hm : (((bndM l.length r).length : Int) != (l.length : Int)) = false := by rw [bndM_len]; simp
    have h8' : haB (scR l r) ((dsS l (wiL (bndM l.length r) p)).1, (dsS l (wiL (bndM l.length r) p)).2.1, ()) = true := (haB_iff _ _).2 f8
    have hpt : ptS l r = dsS l (wiL (bndM l.length r) p) := by
      unfold ptS
      rw [hq, cond_true]
      have h1 : (scR l r).length = 1 := by
        have := hl.symm
        rw [beq_iff_eq] at this
        omega
      obtain ⟨x, hx⟩ := List.length_eq_one_iff.1 h1
      rw [hx] at f8 ⊢
      exact (List.mem_singleton.1 f8).symm
    rw [h, f2, f1, hm, bndM_len, decide_eq_true f3, f7, h8', ← hl, hpt]
    have e2 : ((dsS l (wiL (bndM l.length r) p)).1 == (dsS l (wiL (bndM l.length r) p)).1 && ((dsS l (wiL (bndM l.length r) p)).2.1 == (dsS l (wiL (bndM l.length r) p)).2.1 && true)) = true := by simp
    show (bif !((dsS l (wiL (bndM l.length r) p)).1 == (dsS l (wiL (bndM l.length r) p)).1 && ((dsS l (wiL (bndM l.length r) p)).2.1 == (dsS l (wiL (bndM l.length r) p)).2.1 && true)) then some (b1 false) else suL 20 l (bndM l.length r) (wiL (bndM l.length r) p) some) = _
    rw [e2]
    exact suL_true (bndM_len _ _) f6 f3 f4 f5 some
def u16B (p : List Int) : Bool := p.all fun n => decide (0 ≤ n) && decide (n ≤ 65535)
theorem u16B_iff (p : List Int) : u16B p = true ↔ ∀ n ∈ p, 0 ≤ n ∧ n ≤ 65535 := by
  unfold u16B
  rw [List.all_eq_true]
  exact forall₂_congr fun n _ => by rw [Bool.and_eq_true, decide_eq_true_eq, decide_eq_true_eq]
def msuF : List AVal → Option AOut
  | [.ro (.recd (.cons (.int .i64) (.cons (.int .i64) (.cons (.recd (.cons (.int .i64) (.cons (.int .i64) .nil))) .nil)))) _, .ro (.recd (.cons (.int .i64) (.cons (.int .i64) (.cons (.int .i64) .nil)))) _, .ro (.int .u16) p] => bif u16B p then some (b1 true) else none
  | _ => none
theorem msu_ok : FspOk Try.prog 5 (toFsp msuF) where
  enter := enters_of Try.func5 (by kernel_rfl) rfl
  nat := toFsp_nat _
  calls := fun args out hout M w cargs hM hl hr => by
    have h := toFsp_some hout
    unfold msuF at h
    split at h
    · rename_i l r p
      cases hp : u16B p
      · rw [hp] at h; cases h
      · rw [hp] at h
        cases h
        obtain ⟨q, hq⟩ := su_true (l := l) (r := r) ((u16B_iff p).1 hp)
        exact (fn_ok mixedT tabOk (tower_ok mixedT tabOk (twY_ok (fsU0_ok q) spM8_ok) 20 12) 20 Try.func5 (enters_of Try.func5 (by kernel_rfl) rfl)).calls _ _ hq M w cargs hM hl hr
    · cases h
end Go.Proofs.Ytjfopfhkfmknlaa

namespace Go.Proofs.Ytjfopfhkfmknlaa
theorem u16_in {n : Int} (h : (Lit.int .u16 n).wf = true) : 0 ≤ n ∧ n ≤ 65535 := by
  simp [Lit.wf, IntKind.min, IntKind.max, IntKind.signed, IntKind.bits] at h
  omega
end Go.Proofs.Ytjfopfhkfmknlaa
