/- Parts of the proof, in build order. -/
import Derived.Test.YtcbfmkfmdcabmaaM3
namespace Go.Proofs.Ytcbfmkfmdcabmaa
open Go.RowKit
section
variable {P : Program} {T : Tab} {env : Env} {α : Type} {ops : Array Oper}
theorem put_same {s : AS} {d : Nat} {v : AVal} (h : s.get d = v) (hv : v ≠ .any) : s.put (some d) v = s := by
  obtain ⟨ts, h'⟩ := s
  simp only [AS.put, AS.get] at *
  congr 1
  rw [List.getD_eq_getElem?_getD] at h
  apply List.ext_getElem?
  intro j
  rw [List.getElem?_set]
  split
  · rename_i e
    subst e
    split
    · rename_i hl
      rw [List.getElem?_eq_getElem hl] at h ⊢
      simp at h; rw [h]
    · rename_i hl
      rw [List.getElem?_eq_none (by omega)]
  · rfl
theorem evOpH_congr (dr : Bool) (op : Op) (ty : TypeId) (ρ ρ' : Operand → AVal) (h : List ABlk) (k : AExit → AVal → List ABlk → Option α) (he : ∀ x ∈ op.operands.toList, ρ' x = ρ x) :
    evOpH real T env dr op ty ρ' h k = evOpH real T env dr op ty ρ h k := by
  have hl : ∀ (l : List Operand), (∀ x ∈ l, ρ' x = ρ x) → l.map ρ' = l.map ρ := fun l hl => List.map_congr_left hl
  cases op
  case move x => simp only [evOpH, he x (by simp [Op.operands])]
  case assign x => simp only [evOpH, he x (by simp [Op.operands])]
  case pick c x y => simp only [evOpH, he c (by simp [Op.operands]), he x (by simp [Op.operands]), he y (by simp [Op.operands])]
  case box t x => simp only [evOpH, he x (by simp [Op.operands])]
  case build t parts =>
    have : parts.toList.map (fun p => (p.1, ρ' p.2)) = parts.toList.map (fun p => (p.1, ρ p.2)) := List.map_congr_left fun p hp => by rw [he p.2 (by simp [Op.operands]; exact ⟨p.1, by simpa using hp⟩)]
    simp only [evOpH, this]
  case buildSlice t n parts =>
    have : parts.toList.map (fun p => (p.1, ρ' p.2)) = parts.toList.map (fun p => (p.1, ρ p.2)) := List.map_congr_left fun p hp => by rw [he p.2 (by simp [Op.operands]; exact ⟨p.1, by simpa using hp⟩)]
    simp only [evOpH, this]
  case load t x => simp only [evOpH, he x (by simp [Op.operands])]
  case store t x y => simp only [evOpH, he x (by simp [Op.operands]), he y (by simp [Op.operands])]
  case nilCheck x => simp only [evOpH, he x (by simp [Op.operands])]
  case binOp o t x y yt => simp only [evOpH, he x (by simp [Op.operands]), he y (by simp [Op.operands])]
  case unOp o t x => simp only [evOpH, he x (by simp [Op.operands])]
  case convert s d x => simp only [evOpH, he x (by simp [Op.operands])]
  case makeInterface t x => simp only [evOpH, he x (by simp [Op.operands])]
  case makeFunc f first caps =>
    cases f with
    | func f => simp only [evOpH, hl caps.toList fun x hx => he x (by simp [Op.operands]; exact .inr (by simpa using hx))]
    | _ => rfl
  case makeSlice t x y => simp only [evOpH, he x (by simp [Op.operands]), he y (by simp [Op.operands])]
  case slice t x lo hi mx =>
    cases mx with
    | some m => rfl
    | none =>
      have h1 : lo.map ρ' = lo.map ρ := by cases lo with
        | none => rfl
        | some y => simp [he y (by simp [Op.operands])]
      have h2 : hi.map ρ' = hi.map ρ := by cases hi with
        | none => rfl
        | some y => simp [he y (by simp [Op.operands])]
      simp only [evOpH, he x (by simp [Op.operands]), h1, h2]
  case fieldAddr t x f => simp only [evOpH, he x (by simp [Op.operands])]
  case field t x f => simp only [evOpH, he x (by simp [Op.operands])]
  case indexAddr t x ix => simp only [evOpH, he x (by simp [Op.operands]), he ix (by simp [Op.operands])]
  case index t x ix => simp only [evOpH, he x (by simp [Op.operands]), he ix (by simp [Op.operands])]
  case extract x ix => simp only [evOpH, he x (by simp [Op.operands])]
  case makeMap t r => cases r <;> rfl
  case lookup t m x ok => simp only [evOpH, he m (by simp [Op.operands]), he x (by simp [Op.operands])]
  case mapUpdate t m x y => simp only [evOpH, he m (by simp [Op.operands]), he x (by simp [Op.operands]), he y (by simp [Op.operands])]
  case panic x => simp only [evOpH, he x (by simp [Op.operands])]
  case call c =>
    obtain ⟨callee, args, ts⟩ := c
    cases callee with
    | value f =>
      have hf := he f (by simp [Op.operands, Call.operands])
      have ha := hl args.toList fun x hx => he x (by simp [Op.operands, Call.operands]; exact .inr (by simpa using hx))
      simp only [evOpH, hf, ha]
    | invoke x m => rfl
    | builtin b =>
      have ha : ∀ x ∈ args.toList, ρ' x = ρ x := fun x hx => he x (by simp [Op.operands, Call.operands]; simpa using hx)
      have hm := hl args.toList ha
      cases b
      case len =>
        simp only [evOpH]
        split
        · rename_i x t h1 h2
          rw [ha x (by rw [h1]; simp)]
        · rfl
      case min => simp only [evOpH, hm]
      case max => simp only [evOpH, hm]
      case append =>
        simp only [evOpH]
        split
        · rename_i x y t u h1 h2
          rw [ha x (by rw [h1]; simp), ha y (by rw [h1]; simp)]
        · rfl
      all_goals rfl
  all_goals rfl
theorem ev_same {s s' : AS} {o : Oper} (h : ∀ d ∈ o.looksAt ops, s'.get d = s.get d) : ∀ x ∈ o.op.operands.toList, s'.ev x = s.ev x := by
  intro x hx
  cases x with
  | tmp t => exact h t (by simp only [Oper.looksAt, List.mem_append, List.mem_filterMap]; exact .inl ⟨.tmp t, hx, rfl⟩)
  | _ => rfl
theorem killAll_nil (h : List ABlk) : killAll h (dedup []) = some h := rfl
theorem evOpH_heap {op : Op} {ty : TypeId} {ρ : Operand → AVal} {h h' : List ABlk} {x : AExit} {v : AVal} (hE : EnvOk P env) (hne : opE op = false) (hcl : ∀ f args ts, op = .call { callee := .value f, args, argTypes := ts } → ∃ g caps, ρ f = .fn g caps ∧ (env.fs g).isSome = true) (hk : evOpH real T env true op ty ρ h (fun x v h => some (x, v, h)) = some (x, v, h')) : h' = h := by
  cases op
  case alloc => cases hne
  case box => cases hne
  case buildSlice => cases hne
  case makeSlice => cases hne
  case store => cases hne
  case move x => simp only [evOpH] at hk; cases hk; rfl
  case assign x =>
    simp only [evOpH] at hk
    split at hk
    · split at hk
      · rw [if_neg (by simp)] at hk; cases hk; rfl
      · cases hk; rfl
    · cases hk; rfl
  case pick c x y =>
    simp only [evOpH] at hk
    split at hk
    · rename_i t _
      split at hk
      · cases hk; rfl
      · simp only [real] at hk
        cases t <;> (cases hk; rfl)
    · cases hk
  case build t parts =>
    simp only [evOpH] at hk
    split at hk
    · split at hk
      · cases hk
      · split at hk
        · simp only [Bool.true_or, cond_true] at hk; cases hk; rfl
        · cases hk
    · cases hk
  case load t x =>
    simp only [evOpH] at hk
    split at hk
    · split at hk
      · cases hk; rfl
      · cases hk
    · cases hk
  case nilCheck x =>
    simp only [evOpH] at hk
    cases hl : (ρ x).livePtr h <;> rw [hl] at hk <;> cases hk
    rfl
  case binOp o t x y yt =>
    simp only [evOpH] at hk
    rw [evBin_nat] at hk
    cases hb : evBin real T o t (ρ x) (ρ y) some <;> rw [hb] at hk <;> cases hk
    rfl
  case unOp o t x =>
    simp only [evOpH] at hk
    rw [evUn_nat] at hk
    cases hb : evUn o (ρ x) some <;> rw [hb] at hk <;> cases hk
    rfl
  case convert a b x =>
    simp only [evOpH] at hk
    split at hk
    · cases hk; rfl
    · cases hk
  case makeInterface t x =>
    simp only [evOpH] at hk
    split at hk
    · cases hk
    · cases hk; rfl
    · cases hk
  case makeFunc f first caps =>
    cases f <;> simp only [evOpH] at hk
    · split at hk
      · cases hk; rfl
      · cases hk
    all_goals cases hk
  case slice t x lo hi mx =>
    cases mx with
    | some m => simp only [evOpH] at hk; cases hk
    | none =>
      simp only [evOpH, evSlice] at hk
      split at hk
      · split at hk
        · simp only [evCut, real] at hk
          split at hk
          · split at hk
            · cases hk; rfl
            · split at hk
              · cases hk; rfl
              · cases hk
            · split at hk
              · cases hk; rfl
              · cases hk
            · split at hk
              · cases hk; rfl
              · cases hk
            · cases hk
          · cases hk
        · split at hk <;> cases hk
        · cases hk
      · cases hk
  case fieldAddr t x f =>
    simp only [evOpH] at hk
    rw [evFieldAddr_nat] at hk
    cases hb : evFieldAddr T t (ρ x) f h some <;> rw [hb] at hk <;> cases hk
    rfl
  case field t x f =>
    simp only [evOpH] at hk
    split at hk
    · cases hk; rfl
    · cases hk
  case indexAddr t x ix =>
    simp only [evOpH] at hk
    rw [evIndexAddr_nat] at hk
    cases hb : evIndexAddr real T t (ρ x) (ρ ix) h some <;> rw [hb] at hk <;> cases hk
    rfl
  case index t x ix =>
    simp only [evOpH] at hk
    rw [evIndexV_nat] at hk
    cases hb : evIndexV real T t (ρ x) (ρ ix) some <;> rw [hb] at hk <;> cases hk
    rfl
  case extract x ix =>
    simp only [evOpH] at hk
    split at hk
    · split at hk
      · cases hk; rfl
      · cases hk
    · cases hk
  case makeMap t r => simp [opE] at hne
  case mapUpdate t m x y => simp [opE] at hne
  case lookup t m x ok =>
    simp only [evOpH] at hk
    rw [evLook_nat] at hk
    cases hb : evLook T t (ρ m) (ρ x) ok h some <;> rw [hb] at hk <;> cases hk
    rfl
  case panic x =>
    simp only [evOpH] at hk
    split at hk <;> cases hk
  case call c =>
    obtain ⟨callee, args, ts⟩ := c
    cases callee with
    | value f =>
      simp only [evOpH] at hk
      split at hk
      · rename_i fid caps hfc
        unfold evCall at hk
        split at hk
        · rename_i hno
          obtain ⟨g', c', e1, e2⟩ := hcl f args ts rfl
          rw [hfc] at e1; cases e1
          rw [hno] at e2; cases e2
        · rename_i S hS
          rw [Bool.not_true, Bool.false_and, cond_false] at hk
          unfold evPure at hk
          split at hk
          · cases hk
          · rename_i aw _
            rw [(hE.fs fid S hS).nat] at hk
            cases hout : S AOut aw some with
            | none => rw [hout] at hk; cases hk
            | some out =>
              rw [hout] at hk
              simp only [Option.bind_some] at hk
              cases out with
              | pan u =>
                simp only at hk
                cases hu : (!u.flat2) <;> rw [hu] at hk <;> cases hk
                rfl
              | ret u =>
                simp only at hk
                split at hk
                · cases hk; rfl
                · cases hn : ((args.toList.map ρ ++ caps).flatMap AVal.namedP).isEmpty
                  · rw [hn] at hk; cases hk
                  · rw [hn] at hk
                    have := List.isEmpty_iff.1 hn
                    rw [this] at hk
                    simp only [Bool.not_true, Bool.and_false, cond_false, killZ, killAll_nil] at hk
                    cases hk; rfl
      · rename_i i hfy
        obtain ⟨g', c', e1, e2⟩ := hcl f args ts rfl
        rw [hfy] at e1; cases e1
      · cases hk
    | invoke x m => simp only [evOpH] at hk; cases hk
    | builtin b =>
      cases b
      case append => cases hne
      case len =>
        simp only [evOpH] at hk
        split at hk
        · split at hk
          · split at hk
            · cases hk; rfl
            · cases hk
          · split at hk
            · cases hk
            · cases hk; rfl
          · split at hk
            · cases hk; rfl
            · cases hk
          · cases hk
        · cases hk
      case min =>
        simp only [evOpH] at hk
        split at hk
        · split at hk
          · cases hk; rfl
          · cases hk
        · cases hk
      case max =>
        simp only [evOpH] at hk
        split at hk
        · split at hk
          · cases hk; rfl
          · cases hk
        · cases hk
      all_goals (simp only [evOpH] at hk; cases hk)
  all_goals (simp only [evOpH] at hk; cases hk)
theorem evOpH_any {op : Op} {ty : TypeId} {ρ : Operand → AVal} {h h' : List ABlk} {x : AExit} {v : AVal} (hne : opR op = false) (h2 : List ABlk) (hk : evOpH real T env true op ty ρ h (fun x v h => some (x, v, h)) = some (x, v, h')) :
    evOpH real T env true op ty ρ h2 (fun x v h => some (x, v, h)) = some (x, v, h2) := by
  cases op
  case move x => simp only [evOpH] at hk ⊢; cases hk; rfl
  case assign x =>
    simp only [evOpH] at hk ⊢
    split at hk
    · split at hk
      · rw [if_neg (by simp)] at hk; cases hk; simp
      · cases hk; rfl
    · cases hk; rfl
  case pick c x y =>
    simp only [evOpH] at hk ⊢
    split at hk
    · rename_i t _
      split at hk
      · cases hk; rfl
      · simp only [real] at hk ⊢
        cases t <;> (cases hk; rfl)
    · cases hk
  case build t parts =>
    simp only [evOpH] at hk ⊢
    split at hk
    · split at hk
      · cases hk
      · rename_i hz
        split at hk
        · simp only [Bool.true_or, cond_true] at hk ⊢; cases hk; simp [hz]
        · cases hk
    · cases hk
  case binOp o t x y yt =>
    simp only [evOpH] at hk ⊢
    rw [evBin_nat] at hk ⊢
    cases hb : evBin real T o t (ρ x) (ρ y) some <;> rw [hb] at hk <;> cases hk
    rfl
  case unOp o t x =>
    simp only [evOpH] at hk ⊢
    rw [evUn_nat] at hk ⊢
    cases hb : evUn o (ρ x) some <;> rw [hb] at hk <;> cases hk
    rfl
  case convert a b x =>
    simp only [evOpH] at hk ⊢
    split at hk
    · cases hk; rfl
    · cases hk
  case makeInterface t x =>
    simp only [evOpH] at hk ⊢
    split at hk
    · cases hk
    · cases hk; rfl
    · cases hk
  case makeFunc f first caps =>
    cases f <;> simp only [evOpH] at hk ⊢
    · split at hk
      · cases hk; simp [*]
      · cases hk
    all_goals cases hk
  case field t x f =>
    simp only [evOpH] at hk ⊢
    split at hk
    · cases hk; rfl
    · cases hk
  case index t x ix =>
    simp only [evOpH] at hk ⊢
    rw [evIndexV_nat] at hk ⊢
    cases hb : evIndexV real T t (ρ x) (ρ ix) some <;> rw [hb] at hk <;> cases hk
    rfl
  case extract x ix =>
    simp only [evOpH] at hk ⊢
    split at hk
    · split at hk
      · cases hk; rfl
      · cases hk
    · cases hk
  all_goals cases hne
end
end Go.Proofs.Ytcbfmkfmdcabmaa

namespace Go.Proofs.Ytcbfmkfmdcabmaa
open Go.RowKit
theorem getD_of {h h' : List ABlk} {i : Nat} (e : h'[i]? = h[i]?) : h'.getD i .dead = h.getD i .dead := by
  rw [List.getD_eq_getElem?_getD, List.getD_eq_getElem?_getD, e]
theorem peek0_of {h h' : List ABlk} {v : AVal} (e : ∀ i ∈ v.named0, h'[i]? = h[i]?) : peek0 h' v = peek0 h v := by
  cases v with
  | own i => simp only [peek0]; rw [getD_of (e i (by simp [AVal.named0]))]
  | fn f cs => cases cs <;> rfl
  | _ => rfl
theorem peekL_of {f f' : AVal → Option AVal} : ∀ (l : List AVal), (∀ v ∈ l, f' v = f v) → peekL f' l = peekL f l
  | [], _ => rfl
  | v :: r, e => by
    simp only [peekL]
    rw [e v (by simp), peekL_of r fun u hu => e u (List.mem_cons_of_mem _ hu)]
theorem peek1_of {h h' : List ABlk} {v : AVal} (e : ∀ i ∈ v.named1, h'[i]? = h[i]?) : peek1 h' v = peek1 h v := by
  have inner : ∀ cs : List AVal, (∀ i ∈ cs.flatMap AVal.named0, h'[i]? = h[i]?) → peekL (peek0 h') cs = peekL (peek0 h) cs := fun cs e =>
    peekL_of cs fun v hv => peek0_of fun i hi => e i (List.mem_flatMap.2 ⟨v, hv, hi⟩)
  have innerC : ∀ cs : List AVal, (∀ i ∈ cs.flatMap AVal.named0, h'[i]? = h[i]?) → peekL (peekC h') cs = peekL (peekC h) cs := fun cs e =>
    peekL_of cs fun v hv => by
      have e0 := peek0_of (v := v) fun i hi => e i (List.mem_flatMap.2 ⟨v, hv, hi⟩)
      cases v <;> first | rfl | exact e0
  cases v with
  | agg cs => simp only [peek1]; rw [inner cs e]
  | fn f cs => simp only [peek1]; rw [innerC cs e]
  | own i => exact peek0_of (v := .own i) e
  | _ => rfl
theorem peekP_of {h h' : List ABlk} {v : AVal} (e : ∀ i ∈ v.namedP, h'[i]? = h[i]?) : peekP h' v = peekP h v := by
  cases v with
  | op i off => simp only [peekP]; rw [getD_of (e i (by simp [AVal.namedP]))]
  | agg cs => exact peek1_of (v := .agg cs) e
  | fn f cs => exact peek1_of (v := .fn f cs) e
  | own i => exact peek1_of (v := .own i) e
  | _ => rfl
theorem cellsAt_of {h h' : List ABlk} {v : AVal} {F : List Nat} (hf : blkRef v = some F) (e : ∀ i ∈ F, h'[i]? = h[i]?) : cellsAt h' v = cellsAt h v := by
  cases v with
  | op i off => cases hf; simp only [cellsAt]; rw [getD_of (e i (by simp))]
  | oe i ix off => cases hf; simp only [cellsAt]; rw [getD_of (e i (by simp))]
  | _ => rfl
theorem live_of {h h' : List ABlk} {v : AVal} {F : List Nat} (hf : blkRef v = some F) (e : ∀ i ∈ F, h'[i]? = h[i]?) : v.livePtr h' = v.livePtr h := by
  cases v with
  | op i off => cases hf; simp only [AVal.livePtr]; rw [getD_of (e i (by simp))]
  | oe i ix off => cases hf; simp only [AVal.livePtr]; rw [getD_of (e i (by simp))]
  | _ => rfl
theorem len_of {h h' : List ABlk} {v : AVal} {F : List Nat} (hf : blkRef v = some F) (e : ∀ i ∈ F, h'[i]? = h[i]?) : evLen h' v = evLen h v := by
  cases v with
  | own i => cases hf; simp only [evLen]; rw [getD_of (e i (by simp))]
  | _ => rfl
theorem lenM_of {h h' : List ABlk} {v : AVal} {F : List Nat} (hf : blkRef v = some F) (e : ∀ i ∈ F, h'[i]? = h[i]?) : evLenM h' v = evLenM h v := by
  cases v with
  | own i => cases hf; simp only [evLenM]; rw [getD_of (e i (by simp))]
  | _ => rfl
section
variable {P : Program} {T : Tab} {env : Env} {α : Type} {ops : Array Oper}
theorem fieldAddr_of {t : TypeId} {v : AVal} {f : Nat} {h h' : List ABlk} {F : List Nat} (hf : blkRef v = some F) (e : ∀ i ∈ F, h'[i]? = h[i]?) (k : AVal → Option α) : evFieldAddr T t v f h' k = evFieldAddr T t v f h k := by
  unfold evFieldAddr
  rw [live_of hf e]
theorem indexAddr_of {t : TypeId} {v ix : AVal} {h h' : List ABlk} {F : List Nat} (hf : blkRef v = some F) (e : ∀ i ∈ F, h'[i]? = h[i]?) (k : AVal → Option α) : evIndexAddr real T t v ix h' k = evIndexAddr real T t v ix h k := by
  unfold evIndexAddr
  rw [live_of hf e]
  cases v with
  | own i => cases hf; simp only; rw [getD_of (e i (by simp))]
  | _ => rfl
theorem store_of {t : TypeId} {a v : AVal} {h : List ABlk} {h1 : List ABlk} {F : List Nat} (hf : blkRef a = some F) (hk : evStore T t a v h some = some h1) :
    h1.length = h.length ∧ (∀ i, i ∉ F → h1[i]? = h[i]?) ∧ ∀ h', (∀ i ∈ F, h'[i]? = h[i]?) → ∃ h1', evStore T t a v h' some = some h1' ∧ h1'.length = h'.length ∧ (∀ i ∈ F, h1'[i]? = h1[i]?) ∧ ∀ i, i ∉ F → h1'[i]? = h'[i]? := by
  have main : ∀ (i : Nat) (nb : ABlk), F = [i] → h1 = h.set i nb → i < h.length → (∀ h' : List ABlk, h'[i]? = h[i]? → evStore T t a v h' some = some (h'.set i nb)) →
      h1.length = h.length ∧ (∀ i, i ∉ F → h1[i]? = h[i]?) ∧ ∀ h', (∀ i ∈ F, h'[i]? = h[i]?) → ∃ h1', evStore T t a v h' some = some h1' ∧ h1'.length = h'.length ∧ (∀ i ∈ F, h1'[i]? = h1[i]?) ∧ ∀ i, i ∉ F → h1'[i]? = h'[i]? := fun i nb e1 e2 hlt e3 => by
    subst e1; subst e2
    refine ⟨by simp, fun j hj => by rw [List.getElem?_set, if_neg fun e => hj (by simp [e])], fun h' he => ⟨_, e3 h' (he i (by simp)), by simp, fun j hj => ?_, fun j hj => by rw [List.getElem?_set, if_neg fun e => hj (by simp [e])]⟩⟩
    simp only [List.mem_singleton] at hj
    subst hj
    have hi := he j (by simp)
    have hlt' : j < h'.length := by
      rw [List.getElem?_eq_getElem hlt] at hi
      exact (List.getElem?_eq_some_iff.1 hi).1
    rw [List.getElem?_set, List.getElem?_set, if_pos rfl, if_pos rfl, if_pos hlt, if_pos hlt']
  unfold evStore at hk
  split at hk
  · rename_i h0
    split at hk
    · rename_i hs
      split at hk
      · rename_i i off
        cases hf
        split at hk
        · rename_i cs hh
          split at hk
          · rename_i ho
            cases hk
            have hi := getD_some (by simp) hh
            refine main i _ rfl rfl (List.getElem?_eq_some_iff.1 hi).1 fun h' e => ?_
            unfold evStore
            rw [if_pos h0, if_pos hs]
            simp only
            rw [getD_of e, hh]
            simp only
            rw [if_pos ho]
          · cases hk
        · cases hk
      · rename_i i ix off
        cases hf
        split at hk
        · rename_i t' e xs hh
          split at hk
          · rename_i ho
            split at hk
            · rename_i y hy
              cases hk
              have hi := getD_some (by simp) hh
              refine main i _ rfl rfl (List.getElem?_eq_some_iff.1 hi).1 fun h' e => ?_
              unfold evStore
              rw [if_pos h0, if_pos hs]
              simp only
              rw [getD_of e, hh]
              simp only
              rw [if_pos ho, hy]
            · cases hk
          · cases hk
        · cases hk
      · cases hk
    · cases hk
  · cases hk
abbrev evT0 (T : Tab) (env : Env) (rp : Bool) (n : Nat) (op : Op) (ty : TypeId) (ρ : Operand → AVal) (h : List ABlk) : Option (AExit × AVal × List ABlk) := evD0 real T env rp n op ty ρ h tripE
theorem relab_nat (n : Nat) (h : List ABlk) (x : AExit) (v : AVal) (h1 : List ABlk) (k : AExit → AVal → List ABlk → Option α) : relab n h x v h1 k = (relab n h x v h1 tripE).bind fun p => k p.1 p.2.1 p.2.2 := by
  unfold relab
  split
  · split
    · split <;> rfl
    · split <;> rfl
    · rfl
  · rfl
theorem evD0_nat (hE : EnvOk P env) (rp : Bool) (n : Nat) (op : Op) (ty : TypeId) (ρ : Operand → AVal) (h : List ABlk) (k : AExit → AVal → List ABlk → Option α) : evD0 real T env rp n op ty ρ h k = (evT0 T env rp n op ty ρ h).bind fun p => k p.1 p.2.1 p.2.2 := by
  unfold evT0 evD0
  cases isAlloc rp op
  · exact evOpH_nat hE ..
  · simp only [cond_true]
    rw [evOpH_nat hE, evOpH_nat hE (k := fun x v h1 => relab n h x v h1 tripE)]
    cases evOpH real T env true op ty ρ h (fun x v h => some (x, v, h)) with
    | none => rfl
    | some p => exact relab_nat ..
theorem evT0_new {rp : Bool} {n : Nat} {op : Op} {ty : TypeId} {ρ : Operand → AVal} {h : List ABlk} {x : AExit} {v : AVal} {h1 : List ABlk} (ha : isAlloc false op = true) (hk : evT0 T env rp n op ty ρ h = some (x, v, h1)) :
    ∃ cs, x = .normal ∧ v = .op n 0 ∧ h1 = h.set n (.box true cs) ∧ h[n]? = some .free ∧ ∀ h' : List ABlk, h'[n]? = some .free → evT0 T env rp n op ty ρ h' = some (.normal, .op n 0, h'.set n (.box true cs)) := by
  have main : ∀ (cs : List AVal), (∀ h' : List ABlk, evT0 T env rp n op ty ρ h' = relab n h' .normal (.op h'.length 0) (h' ++ [.box true cs]) tripE) → ∃ cs, x = .normal ∧ v = .op n 0 ∧ h1 = h.set n (.box true cs) ∧ h[n]? = some .free ∧ ∀ h' : List ABlk, h'[n]? = some .free → evT0 T env rp n op ty ρ h' = some (.normal, .op n 0, h'.set n (.box true cs)) := fun cs e => by
    have at' : ∀ h' : List ABlk, h'[n]? = some .free → evT0 T env rp n op ty ρ h' = some (.normal, .op n 0, h'.set n (.box true cs)) := fun h' hn => by
      rw [e h']
      unfold relab
      rw [hn]
      simp only
      rw [if_pos (by simp)]
      simp [tripE]
    have hn : h[n]? = some .free := by
      rw [e h] at hk
      unfold relab at hk
      split at hk
      · assumption
      · cases hk
    rw [at' h hn] at hk
    cases hk
    exact ⟨cs, rfl, rfl, rfl, hn, at'⟩
  cases op
  case alloc t =>
    cases hz : T.zero t with
    | none => simp only [evT0, evD0, isAlloc, cond_true, evOpH, hz] at hk; cases hk
    | some z =>
      by_cases hs : z.cells.all AVal.scalar = true
      · exact main z.cells fun h' => by simp only [evT0, evD0, isAlloc, cond_true, evOpH, hz]; rw [if_pos hs]
      · simp only [evT0, evD0, isAlloc, cond_true, evOpH, hz] at hk
        rw [if_neg hs] at hk; cases hk
  case box t y =>
    by_cases hs : (ρ y).cells.all AVal.scalar = true
    · exact main (ρ y).cells fun h' => by simp only [evT0, evD0, isAlloc, cond_true, evOpH]; rw [if_pos hs, Bool.true_or, cond_true]
    · simp only [evT0, evD0, isAlloc, cond_true, evOpH] at hk
      rw [if_neg hs] at hk; cases hk
  all_goals cases ha
theorem onlyRd_spec {o : Option (List Nat)} {F W : List Nat} (h : onlyRd o = some (F, W)) : o = some F ∧ [] = W := by
  cases o with
  | none => cases h
  | some l => cases h; exact ⟨rfl, rfl⟩
structure Local (F W : List Nat) (h h1 : List ABlk) (D : List ABlk → Option (AExit × AVal × List ABlk)) (x : AExit) (v : AVal) : Prop where
  sub : ∀ i ∈ W, i ∈ F
  len : h1.length = h.length
  off : ∀ i, i ∉ W → h1[i]? = h[i]?
  all : ∀ h' : List ABlk, (∀ i ∈ F, h'[i]? = h[i]?) → ∃ h1', D h' = some (x, v, h1') ∧ h1'.length = h'.length ∧ (∀ i ∈ W, h1'[i]? = h1[i]?) ∧ ∀ i, i ∉ W → h1'[i]? = h'[i]?
theorem Local.same {F : List Nat} {h : List ABlk} {D : List ABlk → Option (AExit × AVal × List ABlk)} {x : AExit} {v : AVal} (hD : ∀ h' : List ABlk, (∀ i ∈ F, h'[i]? = h[i]?) → D h' = some (x, v, h')) : Local F [] h h D x v :=
  ⟨fun i hi => by simp at hi, rfl, fun _ _ => rfl, fun h' he => ⟨h', hD h' he, rfl, fun i hi => by simp at hi, fun _ _ => rfl⟩⟩
theorem evOpH_row {op : Op} {ty : TypeId} {ρ : Operand → AVal} {h : List ABlk} (hr : isRowMk op = true) (k : AExit → AVal → List ABlk → Option α) : evOpH real T env true op ty ρ h k = (evOpH real T env true op ty ρ h tripE).bind fun p => k p.1 p.2.1 p.2.2 := by
  cases op
  case makeSlice t l c =>
    simp only [evOpH]
    rw [evMake_nat, evMake_nat (k := fun v h' => tripE .normal v h')]
    cases evMake real T t (ρ l) (ρ c) h (fun v h => some (v, h)) <;> rfl
  case buildSlice t len parts =>
    simp only [evOpH]
    split
    · split
      · split
        · split
          · rfl
          · split
            · split
              · rfl
              · split <;> rfl
            · rfl
        · rfl
      · rfl
    · rfl
  case call c =>
    obtain ⟨callee, args, ts⟩ := c
    cases callee with
    | value f => cases hr
    | invoke y m => cases hr
    | builtin b =>
      cases b <;> first | (cases hr; done) | skip
      simp only [evOpH]
      split
      · split
        · rw [evAppend_nat, evAppend_nat (k := fun v h' => tripE .normal v h')]
          cases evAppend real T _ _ _ h (fun v h => some (v, h)) <;> rfl
        · rfl
      · rfl
  all_goals cases hr
def killD (h : List ABlk) (A : List Nat) : List ABlk := A.foldl (fun h i => h.set i .dead) h
theorem killD_len : ∀ (A : List Nat) (h : List ABlk), (killD h A).length = h.length
  | [], h => rfl
  | i :: A, h => by
    show (killD (h.set i .dead) A).length = h.length
    rw [killD_len A, List.length_set]
theorem killD_off : ∀ (A : List Nat) (h : List ABlk) (j : Nat), j ∉ A → (killD h A)[j]? = h[j]?
  | [], h, j, _ => rfl
  | i :: A, h, j, hj => by
    show (killD (h.set i .dead) A)[j]? = h[j]?
    rw [killD_off A _ j fun e => hj (List.mem_cons_of_mem _ e), List.getElem?_set, if_neg fun e => hj (by simp [e])]
theorem killD_at : ∀ (A : List Nat) (h : List ABlk) (j : Nat), (killD h A)[j]? = h[j]? ∨ (killD h A)[j]? = some .dead
  | [], h, j => .inl rfl
  | i :: A, h, j => by
    show (killD (h.set i .dead) A)[j]? = h[j]? ∨ (killD (h.set i .dead) A)[j]? = some .dead
    rcases killD_at A (h.set i .dead) j with e | e
    · rw [e, List.getElem?_set]
      by_cases hij : i = j
      · subst hij
        by_cases hl : i < h.length
        · rw [if_pos rfl, if_pos hl]; exact .inr rfl
        · rw [if_pos rfl, if_neg hl, List.getElem?_eq_none (by omega)]; exact .inl rfl
      · rw [if_neg hij]; exact .inl rfl
    · exact .inr e
theorem killD_same {h h' : List ABlk} : ∀ (A : List Nat) (j : Nat), h'[j]? = h[j]? → (killD h' A)[j]? = (killD h A)[j]?
  | [], j, e => e
  | i :: A, j, e => by
    refine killD_same (h := h.set i .dead) (h' := h'.set i .dead) A j ?_
    rw [List.getElem?_set, List.getElem?_set]
    by_cases hij : i = j
    · subst hij
      have : i < h.length ↔ i < h'.length := by
        constructor <;> intro hl
        · rw [List.getElem?_eq_getElem hl] at e; exact (List.getElem?_eq_some_iff.1 e).1
        · rw [List.getElem?_eq_getElem hl] at e; exact (List.getElem?_eq_some_iff.1 e.symm).1
      rw [if_pos rfl, if_pos rfl]
      by_cases hl : i < h.length
      · rw [if_pos hl, if_pos (this.1 hl)]
      · rw [if_neg hl, if_neg fun x => hl (this.2 x)]
    · rw [if_neg hij, if_neg hij]; exact e
def isRowB : ABlk → Prop
  | .row true _ _ _ => True
  | _ => False
structure RowMk (F A : List Nat) (h : List ABlk) (D : List ABlk → Option (AExit × AVal × List ABlk)) (x : AExit) (v : AVal) (h1 : List ABlk) (b : ABlk) : Prop where
  ex : x = .normal
  val : v = .own h.length
  mem : h1 = killD h A ++ [b]
  row : isRowB b
  all : ∀ h' : List ABlk, (∀ i ∈ F, h'[i]? = h[i]?) → D h' = some (.normal, .own h'.length, killD h' A ++ [b])
theorem make_shape (t : TypeId) (l c : AVal) : ∃ o : Option ABlk, (∀ b, o = some b → isRowB b) ∧ ∀ (h : List ABlk) (k : AVal → List ABlk → Option (AExit × AVal × List ABlk)), evMake real T t l c h k = o.bind fun b => k (.own h.length) (h ++ [b]) := by
  by_cases hx : ∃ b, isRowB b ∧ ∀ (h : List ABlk) (k : AVal → List ABlk → Option (AExit × AVal × List ABlk)), evMake real T t l c h k = k (.own h.length) (h ++ [b])
  · obtain ⟨b, h1, h2⟩ := hx
    exact ⟨some b, fun b' e => by cases e; exact h1, h2⟩
  · refine ⟨none, fun b e => (by cases e), fun h k => ?_⟩
    unfold evMake
    split
    · rename_i et n m e1
      split
      · rename_i e z e4 e5
        split
        · rename_i e6
          split
          · rename_i y e7
            simp only [real]
            split
            · rename_i e8
              exfalso
              refine hx ⟨.row true et e (List.replicate n.toNat y), trivial, fun h k => ?_⟩
              unfold evMake
              simp only [e1, e4, e5, e7, real]
              rw [if_pos e6, if_pos e8]
            · rfl
          · rfl
        · rfl
      · rfl
    · rfl
theorem append_shape {t : TypeId} {x y : AVal} {A B : List Nat} (hx : blkRow x = some A) (hy : blkArg y = some B) {h : List ABlk} {v : AVal} {h1 : List ABlk} (hk : evAppend real T t x y h (fun v h' => tripE .normal v h') = some (.normal, v, h1)) :
    ∃ b, isRowB b ∧ v = .own h.length ∧ h1 = killD h A ++ [b] ∧ ∀ h' : List ABlk, (∀ i ∈ A ++ B, h'[i]? = h[i]?) → evAppend real T t x y h' (fun v h' => tripE .normal v h') = some (.normal, .own h'.length, killD h' A ++ [b]) := by
  unfold evAppend at hk
  split at hk
  case h_2 => cases hk
  rename_i et hund
  split at hk
  · cases hk
  rename_i hbt
  split at hk
  · cases hk
  rename_i e xs hh hrow
  split at hk
  case isFalse => cases hk
  rename_i hc
  -- the row
  have rw1 : hh = killD h A ∧ ∀ h' : List ABlk, (∀ i ∈ A ++ B, h'[i]? = h[i]?) → rowOf T h' et x = some ⟨e, xs, killD h' A⟩ := by
    cases x <;> simp only [blkRow] at hx <;> cases hx
    · simp only [rowOf] at hrow
      split at hrow
      · rename_i ht
        split at hrow
        · rename_i e2
          cases hrow
          refine ⟨rfl, fun h' he => ?_⟩
          simp only [rowOf]
          rw [ht]
          simp only
          rw [if_pos e2]
          rfl
        · cases hrow
      · cases hrow
    · rename_i i
      simp only [rowOf] at hrow
      split at hrow
      · rename_i t' e' xs' ht
        split at hrow
        · rename_i e2
          cases hrow
          refine ⟨rfl, fun h' he => ?_⟩
          simp only [rowOf]
          rw [getD_of (he i (by simp)), ht]
          simp only
          rw [if_pos e2]
          rfl
        · cases hrow
      · cases hrow
  obtain ⟨rfl, rw2⟩ := rw1
  have unf : ∀ h' : List ABlk, (∀ i ∈ A ++ B, h'[i]? = h[i]?) → ∀ (kk : AVal → List ABlk → Option (AExit × AVal × List ABlk)), evAppend real T t x y h' kk = (match (generalizing := false) y with
        | .nils => kk (.own (killD h' A).length) (killD h' A ++ [.row true et e xs])
        | y =>
          match asRo h' y with
          | none => none
          | some ⟨d, ys⟩ =>
            if hd : d = e then
              real.iff ((xs.length + ys.length) * T.bytes et ≤ room) inferInstance (kk (.own (killD h' A).length) (killD h' A ++ [.row true et e (xs ++ hd ▸ ys)])) none
            else none) := fun h' he kk => by
    unfold evAppend
    rw [hund]
    simp only
    rw [if_neg hbt, rw2 h' he]
    simp only
    rw [if_pos hc]
    cases y <;> rfl
  cases y <;> simp only [blkArg] at hy <;> cases hy
  · -- nils
    cases hk
    refine ⟨.row true et e xs, trivial, by rw [killD_len], rfl, fun h' he => ?_⟩
    rw [unf h' he]
    simp only [killD_len]
    rfl
  · -- ro
    rename_i d ys
    simp only [asRo] at hk
    split at hk
    · rename_i hd
      simp only [real] at hk
      split at hk
      · rename_i hrm
        cases hk
        refine ⟨.row true et e (xs ++ hd ▸ ys), trivial, by rw [killD_len], rfl, fun h' he => ?_⟩
        rw [unf h' he]
        simp only [asRo, killD_len, real]
        rw [dif_pos hd, if_pos hrm]
        rfl
      · cases hk
    · cases hk
  · -- own
    rename_i i
    simp only [asRo] at hk
    split at hk
    · cases hk
    · rename_i d ys hr
      split at hr
      · rename_i w2 t2 e2 xs2 hrr
        split at hr
        case isFalse => cases hr
        rename_i h02
        cases hr
        split at hk
        · rename_i hd
          simp only [real] at hk
          split at hk
          · rename_i hrm
            cases hk
            refine ⟨.row true et e (xs ++ hd ▸ ys), trivial, by rw [killD_len], rfl, fun h' he => ?_⟩
            rw [unf h' he]
            simp only [asRo, killD_len, real]
            rw [getD_of (he i (by simp)), hrr]
            simp only [if_pos h02]
            rw [dif_pos hd, if_pos hrm]
            rfl
          · cases hk
        · cases hk
      · cases hr
theorem over_all {β : Type} : ∀ (l vs : List β), vs.length = l.length → List.overAt l 0 vs = vs
  | l, [], h => by
    have : l = [] := List.eq_nil_of_length_eq_zero h.symm
    subst this; rfl
  | [], _ :: _, h => by simp at h
  | _ :: l, v :: vs, h => by
    show v :: List.overAt l 0 vs = _
    rw [over_all l vs (by simpa using h)]
theorem plain_peek {h : List ABlk} : ∀ (cs : List AVal), cs.all plainC = true → peekL (peek0 h) cs = some cs
  | [], _ => rfl
  | c :: cs, ha => by
    rw [List.all_cons, Bool.and_eq_true] at ha
    have e : peek0 h c = some c := by cases c <;> first | rfl | (cases ha.1)
    unfold peekL
    rw [e, plain_peek cs ha.2]
theorem plain_named : ∀ (cs : List AVal), cs.all plainC = true → cs.flatMap AVal.named0 = []
  | [], _ => rfl
  | c :: cs, ha => by
    rw [List.all_cons, Bool.and_eq_true] at ha
    have e : c.named0 = [] := by cases c <;> first | rfl | (cases ha.1)
    rw [List.flatMap_cons, e, plain_named cs ha.2]; rfl
theorem rowmk_spec {fs : FuncId → Option Fsp} {n : Nat} {op : Op} {ty : TypeId} {ρ : Operand → AVal} {h : List ABlk} {x : AExit} {v : AVal} {h1 : List ABlk} {F W : List Nat} (hr : isRowMk op = true) (hf : footOf fs true n ρ op = some (F, W)) (hk : evOpH real T env true op ty ρ h tripE = some (x, v, h1)) :
    ∃ A b, W = A ++ [n] ∧ (∀ i ∈ A, i ∈ F) ∧ n ∈ F ∧ RowMk F A h (fun h' => evOpH real T env true op ty ρ h' tripE) x v h1 b := by
  cases op
  case makeSlice t l c =>
    simp only [footOf, cond_true, Option.some.injEq, Prod.mk.injEq] at hf
    obtain ⟨rfl, rfl⟩ := hf
    obtain ⟨o, ho, e⟩ := make_shape (T := T) t (ρ l) (ρ c)
    have e' : ∀ h', evOpH real T env true (.makeSlice t l c) ty ρ h' tripE = o.bind fun b => tripE .normal (.own h'.length) (h' ++ [b]) := fun h' => e h' _
    rw [e'] at hk
    cases o with
    | none => cases hk
    | some b =>
      cases hk
      exact ⟨[], b, rfl, (fun i hi => by simp at hi), by simp, rfl, rfl, rfl, ho b rfl, fun h' _ => e' h'⟩
  case buildSlice t len parts =>
    simp only [footOf, Bool.true_and] at hf
    cases hc0 : ((len == 0 && parts.isEmpty) || (len == 1 && oneP ρ parts.toList)) with
    | false =>
      rw [hc0] at hf
      simp only [cond_false] at hf
      cases hl1 : len == 1 with
      | false => rw [hl1] at hf; cases hf
      | true =>
      rw [hl1, cond_true] at hf
      cases ho : oneO ρ parts.toList with
      | none => rw [ho] at hf; cases hf
      | some j =>
      rw [ho] at hf
      simp only [Option.some.injEq, Prod.mk.injEq] at hf
      obtain ⟨rfl, rfl⟩ := hf
      rw [beq_iff_eq] at hl1
      subst hl1
      obtain ⟨y, hp, hy⟩ : ∃ y, parts.toList = [(0, y)] ∧ ρ y = .own j := by
        unfold oneO at ho
        split at ho
        · rename_i y hl
          split at ho
          · rename_i j' hj
            cases ho
            exact ⟨y, hl, hj⟩
          · cases ho
        · cases ho
      simp only [evOpH] at hk
      split at hk
      case h_2 => cases hk
      rename_i et hund
      split at hk
      case h_2 => cases hk
      rename_i e z hsh hz
      split at hk
      case isFalse => cases hk
      rename_i hcc
      have hcl : (ρ y).cells = [.own j] := by rw [hy]; rfl
      rw [hp] at hk
      simp only [List.map_cons, List.map_nil, List.replicate_one, List.flatten_cons, List.flatten_nil, List.append_nil, fillC, Nat.zero_mul, Nat.zero_add, hcl] at hk
      by_cases hq : ([AVal.own j] : List AVal).all AVal.scalar = true ∧ ([AVal.own j] : List AVal).length = T.size et ∧ ([AVal.own j] : List AVal).length ≤ z.cells.length
      case neg => rw [if_neg hq] at hk; cases hk
      rw [if_pos hq] at hk
      have hov : List.overAt z.cells 0 [AVal.own j] = [.own j] := over_all _ _ (by rw [hq.2.1, hcc.2.2.2.1, hcc.2.1])
      have hnm : dedup (([AVal.own j] : List AVal).flatMap AVal.named0) = [j] := rfl
      simp only [hov, if_pos hq.1, hnm] at hk
      cases hpk : peekL (peek0 h) [AVal.own j] with
      | none => rw [hpk] at hk; cases hk
      | some us =>
      rw [hpk] at hk
      simp only [] at hk
      cases hka : killAll h [j] with
      | none => rw [hka] at hk; cases hk
      | some hh =>
      rw [hka] at hk
      cases hm : e.many 1 us with
      | none => rw [hm] at hk; cases hk
      | some xs =>
      rw [hm] at hk
      cases hk
      have kd : ∀ {h0 : List ABlk}, h0.getD j .dead = h.getD j .dead → killAll h0 [j] = some (killD h0 [j]) := fun {h0} e0 => by
        simp only [killAll] at hka ⊢
        rw [e0]
        split at hka
        · rfl
        · cases hka
      have e1 : hh = killD h [j] := Option.some.inj (hka.symm.trans (kd rfl))
      subst e1
      refine ⟨[j], .row true et e xs, rfl, (fun i hi => List.mem_append_left _ hi), by simp, rfl, by rw [killD_len], rfl, trivial, fun h' he => ?_⟩
      have ej : h'.getD j .dead = h.getD j .dead := getD_of (he j (by simp))
      have hpk' : peekL (peek0 h') [AVal.own j] = some us := by
        rw [← hpk]
        simp only [peekL, peek0, ej]
      simp only [evOpH, hund, hsh, hz]
      rw [if_pos hcc, hp]
      simp only [List.map_cons, List.map_nil, List.replicate_one, List.flatten_cons, List.flatten_nil, List.append_nil, fillC, Nat.zero_mul, Nat.zero_add, hcl]
      rw [if_pos hq]
      simp only [hov, if_pos hq.1, hnm, hpk', kd ej, hm]
      rw [killD_len]
      rfl
    | true =>
    rw [hc0] at hf
    simp only [cond_true, Option.some.injEq, Prod.mk.injEq] at hf
    obtain ⟨rfl, rfl⟩ := hf
    cases hc : (len == 0 && parts.isEmpty) with
    | false =>
      rw [hc, Bool.false_or, Bool.and_eq_true, beq_iff_eq] at hc0
      obtain ⟨rfl, hone⟩ := hc0
      obtain ⟨y, hp, hpl⟩ : ∃ y, parts.toList = [(0, y)] ∧ (ρ y).cells.all plainC = true := by
        unfold oneP at hone
        split at hone
        · rename_i i y hl
          rw [Bool.and_eq_true, beq_iff_eq] at hone
          obtain ⟨rfl, h2⟩ := hone
          exact ⟨y, hl, h2⟩
        · cases hone
      simp only [evOpH] at hk
      split at hk
      case h_2 => cases hk
      rename_i et hund
      split at hk
      case h_2 => cases hk
      rename_i e z hsh hz
      split at hk
      case isFalse => cases hk
      rename_i hcc
      rw [hp] at hk
      simp only [List.map_cons, List.map_nil, List.replicate_one, List.flatten_cons, List.flatten_nil, List.append_nil, fillC, Nat.zero_mul, Nat.zero_add] at hk
      by_cases hq : (ρ y).cells.all AVal.scalar = true ∧ (ρ y).cells.length = T.size et ∧ (ρ y).cells.length ≤ z.cells.length
      case neg => rw [if_neg hq] at hk; cases hk
      rw [if_pos hq] at hk
      have hov : List.overAt z.cells 0 (ρ y).cells = (ρ y).cells := over_all _ _ (by rw [hq.2.1, hcc.2.2.2.1, hcc.2.1])
      simp only [hov, if_pos hq.1, plain_peek _ hpl, plain_named _ hpl, dedup, killAll] at hk
      cases hm : e.many 1 (ρ y).cells with
      | none => rw [hm] at hk; cases hk
      | some xs =>
        rw [hm] at hk
        cases hk
        refine ⟨[], _, rfl, (fun i hi => by simp at hi), by simp, rfl, rfl, rfl, trivial, fun h' _ => ?_⟩
        simp only [evOpH, hund, hsh, hz]
        rw [if_pos hcc, hp]
        simp only [List.map_cons, List.map_nil, List.replicate_one, List.flatten_cons, List.flatten_nil, List.append_nil, fillC, Nat.zero_mul, Nat.zero_add]
        rw [if_pos hq]
        simp only [hov, if_pos hq.1, plain_peek _ hpl, plain_named _ hpl, dedup, killAll, hm]
        rfl
    | true =>
      simp only [Bool.and_eq_true, beq_iff_eq, Array.isEmpty_iff] at hc
      obtain ⟨rfl, rfl⟩ := hc
      simp only [evOpH] at hk
      split at hk
      case h_2 => cases hk
      rename_i et hund
      split at hk
      case h_2 => cases hk
      rename_i e z hsh hz
      split at hk
      case isFalse => cases hk
      rename_i hcc
      simp only [List.replicate_zero, List.flatten_nil, List.map_nil, fillC, List.all_nil, if_true, peekL, List.flatMap_nil, dedup, killAll, Sh.many] at hk
      cases hk
      refine ⟨[], _, rfl, (fun i hi => by simp at hi), by simp, rfl, rfl, rfl, trivial, fun h' _ => ?_⟩
      simp only [evOpH, hund, hsh, hz]
      rw [if_pos hcc]
      simp only [List.replicate_zero, List.flatten_nil, List.map_nil, fillC, List.all_nil, if_true, peekL, List.flatMap_nil, dedup, killAll, Sh.many]
      rfl
  case call c =>
    obtain ⟨callee, args, ts⟩ := c
    cases callee with
    | value f => cases hr
    | invoke y m => cases hr
    | builtin b =>
      cases b <;> first | (cases hr; done) | skip
      simp only [footOf, cond_true] at hf
      split at hf
      case h_2 => cases hf
      rename_i ax ay ha
      split at hf
      case h_2 => cases hf
      rename_i A B hA hB
      cases hf
      simp only [evOpH, ha] at hk
      split at hk
      case h_2 => cases hk
      rename_i x1 y1 t u e1 ht
      cases e1
      split at hk
      case isFalse => cases hk
      rename_i htu
      have hx : x = .normal := by
        rw [evAppend_nat] at hk
        cases hq : evAppend real T t (ρ ax) (ρ ay) h (fun v h => some (v, h)) with
        | none => rw [hq] at hk; cases hk
        | some q => rw [hq] at hk; cases hk; rfl
      subst hx
      obtain ⟨b, b1, b2, b3, b4⟩ := append_shape hA hB hk
      refine ⟨A, b, rfl, fun i hi => by simp [hi], by simp, rfl, b2, b3, b1, fun h' he => ?_⟩
      simp only [evOpH, ha, ht]
      rw [if_pos htu]
      exact b4 h' fun i hi => he i (by simp only [List.mem_append] at hi ⊢; exact .inl hi)
  all_goals cases hr
theorem row_local {n : Nat} {op : Op} {ty : TypeId} {ρ : Operand → AVal} {h : List ABlk} {x : AExit} {v : AVal} {h1 : List ABlk} {F W : List Nat} {fs : FuncId → Option Fsp} (hr : isRowMk op = true) (hf : footOf fs true n ρ op = some (F, W)) (hk : evT0 T env true n op ty ρ h = some (x, v, h1)) :
    Local F W h h1 (evT0 T env true n op ty ρ) x v := by
  have ha : isAlloc true op = true := by cases op <;> first | rfl | exact hr
  have e0 : ∀ h', evT0 T env true n op ty ρ h' = evOpH real T env true op ty ρ h' fun x v h1 => relab n h' x v h1 tripE := fun h' => by
    unfold evT0 evD0
    rw [ha]; rfl
  have e1 : ∀ h', evT0 T env true n op ty ρ h' = (evOpH real T env true op ty ρ h' tripE).bind fun p => relab n h' p.1 p.2.1 p.2.2 tripE := fun h' => by
    rw [e0, evOpH_row hr]
  rw [e1] at hk
  cases hq : evOpH real T env true op ty ρ h tripE with
  | none => rw [hq] at hk; cases hk
  | some p =>
    obtain ⟨x0, v0, h0⟩ := p
    obtain ⟨A, b, rfl, hAF, hnF, rm⟩ := rowmk_spec (fs := fs) hr hf hq
    rw [hq] at hk
    simp only [Option.bind_some] at hk
    have r1 := rm.ex; have r2 := rm.val; have r3 := rm.mem
    subst r1; subst r2; subst r3
    have at' : ∀ h' : List ABlk, h'[n]? = some .free → relab n h' .normal (.own h'.length) (killD h' A ++ [b]) tripE = some (.normal, .own n, (killD h' A).set n b) := fun h' hn => by
      unfold relab
      rw [hn]
      simp only
      rw [if_pos (by simp [killD_len])]
      have e2 : (killD h' A ++ [b]).take h'.length = killD h' A := by rw [← killD_len A h']; simp
      have e3 : (killD h' A ++ [b]).getD h'.length .dead = b := by rw [← killD_len A h']; simp
      rw [e2, e3]
      rfl
    have hn : h[n]? = some .free := by
      unfold relab at hk
      split at hk
      · assumption
      · cases hk
    rw [at' h hn] at hk
    cases hk
    have hlt : n < h.length := (List.getElem?_eq_some_iff.1 hn).1
    refine ⟨fun i hi => ?_, by simp [killD_len], fun i hi => ?_, fun h' he => ?_⟩
    · rcases List.mem_append.1 hi with hi | hi
      · exact hAF i hi
      · rw [List.mem_singleton] at hi; subst hi; exact hnF
    · rw [List.mem_append, List.mem_singleton] at hi
      rw [List.getElem?_set, if_neg fun e => hi (.inr e.symm), killD_off A h i fun e => hi (.inl e)]
    · have hn' : h'[n]? = some .free := (he n hnF).trans hn
      have hlt' : n < h'.length := (List.getElem?_eq_some_iff.1 hn').1
      refine ⟨(killD h' A).set n b, ?_, by simp [killD_len], fun i hi => ?_, fun i hi => ?_⟩
      · rw [e1, rm.all h' he]
        exact at' h' hn'
      · rw [List.getElem?_set, List.getElem?_set, killD_len, killD_len]
        by_cases hin : n = i
        · subst hin; rw [if_pos rfl, if_pos rfl, if_pos hlt, if_pos hlt']
        · rw [if_neg hin, if_neg hin]
          exact killD_same A i (he i (by
            rcases List.mem_append.1 hi with hi | hi
            · exact hAF i hi
            · rw [List.mem_singleton] at hi; exact absurd hi.symm hin))
      · rw [List.mem_append, List.mem_singleton] at hi
        rw [List.getElem?_set, if_neg fun e => hi (.inr e.symm), killD_off A h' i fun e => hi (.inl e)]
theorem evT0_local (hE : EnvOk P env) {rp : Bool} {n : Nat} {op : Op} {ty : TypeId} {ρ : Operand → AVal} {h : List ABlk} {x : AExit} {v : AVal} {h1 : List ABlk} {F W : List Nat} (hf : footOf env.fs rp n ρ op = some (F, W)) (hk : evT0 T env rp n op ty ρ h = some (x, v, h1)) :
    Local F W h h1 (evT0 T env rp n op ty ρ) x v := by
  by_cases ha : isAlloc false op = true
  · obtain ⟨cs, rfl, rfl, rfl, hn, hall⟩ := evT0_new ha hk
    have hFW : F = [n] ∧ W = [n] := by
      cases op <;> first | (cases ha; done) | (simp only [footOf, Option.some.injEq, Prod.mk.injEq] at hf; exact ⟨hf.1.symm, hf.2.symm⟩)
    obtain ⟨rfl, rfl⟩ := hFW
    have hlt : n < h.length := (List.getElem?_eq_some_iff.1 hn).1
    refine ⟨fun i hi => hi, by simp, fun i hi => by rw [List.getElem?_set, if_neg fun e => hi (by simp [e])], fun h' he => ?_⟩
    have hn' : h'[n]? = some .free := (he n (by simp)).trans hn
    have hlt' : n < h'.length := (List.getElem?_eq_some_iff.1 hn').1
    refine ⟨_, hall h' hn', by simp, fun i hi => ?_, fun i hi => by rw [List.getElem?_set, if_neg fun e => hi (by simp [e])]⟩
    simp only [List.mem_singleton] at hi
    subst hi
    rw [List.getElem?_set, List.getElem?_set, if_pos rfl, if_pos rfl, if_pos hlt, if_pos hlt']
  · by_cases hrow : (rp && isRowMk op) = true
    · rw [Bool.and_eq_true] at hrow
      obtain ⟨rfl, hrow⟩ := hrow
      exact row_local hrow hf hk
    have e0 : ∀ h', evT0 T env rp n op ty ρ h' = evOpH real T env true op ty ρ h' tripE := fun h' => by
      unfold evT0 evD0
      have : isAlloc rp op = false := by
        have h1 : isAlloc false op = false := by simpa using ha
        have h2 : (rp && isRowMk op) = false := by simpa using hrow
        cases op <;> first | (cases h1; done) | exact h2
      rw [this]; rfl
    have pure : opE op = false → opR op = false → W = [] → Local F W h h1 (evT0 T env rp n op ty ρ) x v := fun p1 p2 p3 => by
      subst p3
      rw [e0] at hk
      have hh := evOpH_heap hE p1 (fun f args ts e => by subst e; cases p2) hk
      subst hh
      exact .same fun h' _ => by rw [e0]; exact evOpH_any p2 h' hk
    have memo : opE op = false → W = [] → (∀ f args ts, op = .call { callee := .value f, args, argTypes := ts } → ∃ g caps, ρ f = .fn g caps ∧ (env.fs g).isSome = true) → (∀ h' : List ABlk, (∀ i ∈ F, h'[i]? = h[i]?) → evOpH real T env true op ty ρ h' tripE = (evOpH real T env true op ty ρ h tripE).map fun p => (p.1, p.2.1, h')) → Local F W h h1 (evT0 T env rp n op ty ρ) x v := fun p1 p3 pc hp => by
      subst p3
      rw [e0] at hk
      have hh := evOpH_heap hE p1 pc hk
      subst hh
      exact .same fun h' he => by rw [e0, hp h' he, hk]; rfl
    cases op
    case store t a y =>
      have hf : blkRef (ρ a) = some F ∧ F = W := by
        simp only [footOf] at hf
        split at hf
        · rename_i l hl; cases hf; exact ⟨hl, rfl⟩
        · cases hf
      obtain ⟨hf1, hf2⟩ := hf
      subst hf2
      rw [e0] at hk
      simp only [evOpH] at hk
      rw [evStore_nat] at hk
      cases hst : evStore T t (ρ a) (ρ y) h some with
      | none => rw [hst] at hk; cases hk
      | some h2 =>
        rw [hst] at hk
        cases hk
        obtain ⟨q1, q2, q3⟩ := store_of hf1 hst
        refine ⟨fun i hi => hi, q1, q2, fun h' he => ?_⟩
        obtain ⟨h1', r1, r2, r3, r4⟩ := q3 h' he
        refine ⟨h1', ?_, r2, r3, r4⟩
        rw [e0]
        simp only [evOpH]
        rw [evStore_nat, r1]
        rfl
    case load t a =>
      have hf := onlyRd_spec hf
      refine memo rfl hf.2.symm (fun _ _ _ e => by cases e) fun h' he => ?_
      simp only [evOpH]
      rw [cellsAt_of hf.1 he]
      split
      · split <;> rfl
      · rfl
    case nilCheck a =>
      have hf := onlyRd_spec hf
      refine memo rfl hf.2.symm (fun _ _ _ e => by cases e) fun h' he => ?_
      simp only [evOpH]
      rw [live_of hf.1 he]
      cases (ρ a).livePtr h <;> rfl
    case fieldAddr t a f =>
      have hf := onlyRd_spec hf
      refine memo rfl hf.2.symm (fun _ _ _ e => by cases e) fun h' he => ?_
      simp only [evOpH]
      rw [fieldAddr_of hf.1 he, evFieldAddr_nat, evFieldAddr_nat (k := fun v => tripE .normal v h)]
      cases evFieldAddr T t (ρ a) f h some <;> rfl
    case indexAddr t a ix =>
      have hf := onlyRd_spec hf
      refine memo rfl hf.2.symm (fun _ _ _ e => by cases e) fun h' he => ?_
      simp only [evOpH]
      rw [indexAddr_of hf.1 he, evIndexAddr_nat, evIndexAddr_nat (k := fun v => tripE .normal v h)]
      cases evIndexAddr real T t (ρ a) (ρ ix) h some <;> rfl
    case slice t y lo hi mx =>
      cases hy : ρ y with
      | ro e xs =>
        simp only [footOf, hy, Foot.no, Prod.mk.injEq, Option.some.injEq] at hf
        refine memo rfl hf.2.symm (fun _ _ _ e => by cases e) fun h' he => ?_
        cases mx with
        | some m => rfl
        | none =>
          simp only [evOpH, evSlice, hy]
          split
          · unfold evCut
            split
            · split <;> first
                | rfl
                | (simp only [real_iff']; split <;> rfl)
            · rfl
          · rfl
      | _ => simp [footOf, hy] at hf
    case call c =>
      obtain ⟨callee, args, ts⟩ := c
      cases callee with
      | invoke y m => simp [footOf, opE, opR] at hf
      | value f =>
        cases hy : ρ f with
        | fn fid caps =>
          simp only [footOf, hy] at hf
          cases hfs : env.fs fid with
          | none => rw [hfs] at hf; cases hf
          | some S =>
          rw [hfs] at hf
          simp only [Prod.mk.injEq, Option.some.injEq] at hf
          obtain ⟨hf1, hf2⟩ := hf
          refine memo rfl hf2.symm (fun f' args' ts' e => ?_) fun h' he => ?_
          · cases e; exact ⟨fid, caps, hy, by rw [hfs]; rfl⟩
          have hS := hfs
          simp only [evOpH, hy, evCall, hfs, Bool.not_true, Bool.false_and, cond_false]
          · skip
            have hp : peekL (peekP h') (args.toList.map ρ ++ caps) = peekL (peekP h) (args.toList.map ρ ++ caps) := peekL_of _ fun v hv => peekP_of fun i hi => he i (by rw [← hf1]; exact List.mem_flatMap.2 ⟨v, hv, hi⟩)
            unfold evPure
            rw [hp]
            split
            · rfl
            · rename_i aw _
              rw [(hE.fs fid S hS).nat (AExit × AVal × List ABlk) aw, (hE.fs fid S hS).nat (AExit × AVal × List ABlk) aw]
              cases S AOut aw some with
              | none => rfl
              | some out =>
                simp only [Option.bind_some]
                cases out with
                | ret u =>
                  simp only
                  split
                  · rfl
                  · cases hn : ((args.toList.map ρ ++ caps).flatMap AVal.namedP).isEmpty
                    · rfl
                    · have := List.isEmpty_iff.1 hn
                      rw [this]
                      simp only [Bool.not_true, Bool.and_false, cond_false, killZ, killAll_nil]
                      rfl
                | pan u =>
                  simp only
                  cases (!u.flat2) <;> rfl
        | _ => simp [footOf, hy] at hf
      | builtin b =>
        cases b
        case len =>
          cases hl : args.toList with
          | nil => simp [footOf, hl] at hf
          | cons y r =>
            cases r with
            | cons _ _ => simp [footOf, hl] at hf
            | nil =>
              simp only [footOf, hl] at hf
              have hf := onlyRd_spec hf
              refine memo rfl hf.2.symm (fun _ _ _ e => by cases e) fun h' he => ?_
              simp only [evOpH, hl]
              cases ts.toList with
              | nil => rfl
              | cons t r =>
                cases r with
                | cons _ _ => rfl
                | nil =>
                  simp only
                  rw [len_of hf.1 he, lenM_of hf.1 he]
                  split
                  · split <;> rfl
                  · split <;> rfl
                  · split <;> rfl
                  · rfl
        case min =>
          simp only [footOf, Foot.no, Prod.mk.injEq, Option.some.injEq] at hf
          refine memo rfl hf.2.symm (fun _ _ _ e => by cases e) fun h' he => ?_
          simp only [evOpH]
          split
          · split <;> rfl
          · rfl
        case max =>
          simp only [footOf, Foot.no, Prod.mk.injEq, Option.some.injEq] at hf
          refine memo rfl hf.2.symm (fun _ _ _ e => by cases e) fun h' he => ?_
          simp only [evOpH]
          split
          · split <;> rfl
          · rfl
        case append =>
          cases rp with
          | true => exact absurd rfl hrow
          | false => simp [footOf] at hf
        all_goals simp [footOf, opE, opR] at hf
    case alloc => exact absurd rfl ha
    case box => exact absurd rfl ha
    case makeSlice t l c =>
      cases rp with
      | true => exact absurd rfl hrow
      | false => simp [footOf] at hf
    case buildSlice t l c =>
      cases rp with
      | true => exact absurd rfl hrow
      | false => simp [footOf] at hf
    all_goals first
      | (simp [footOf, opE, opR] at hf; done)
      | (simp only [footOf, opE, opR, Foot.no, Bool.or_false, Bool.false_eq_true, if_false, Prod.mk.injEq, Option.some.injEq] at hf; exact pure rfl rfl hf.2.symm)
end
end Go.Proofs.Ytcbfmkfmdcabmaa

namespace Go.Proofs.Ytcbfmkfmdcabmaa
open Go.RowKit
section
variable {P : Program} {T : Tab} {env : Env} {α : Type}
abbrev evT (T : Tab) (env : Env) (rp : Bool) (n : Nat) (op : Op) (ty : TypeId) (ρ : Operand → AVal) (h : List ABlk) : Option (AExit × AVal × List ABlk) := evD real T env rp n op ty ρ h tripE
theorem evD_some {rp : Bool} {n : Nat} {op : Op} {ty : TypeId} {ρ : Operand → AVal} {h : List ABlk} {k : AExit → AVal → List ABlk → Option α} {q : List Nat × List Nat} (hf : footOf env.fs rp n ρ op = some q) : evD real T env rp n op ty ρ h k = evD0 real T env rp n op ty ρ h k := by
  unfold evD
  rw [hf]
theorem hidD_nat (ms ls : List Nat) (h : List ABlk) (x : AExit) (v : AVal) (h1 : List ABlk) (k : AExit → AVal → List ABlk → Option α) : hidD ms ls h x v h1 k = (hidD ms ls h x v h1 tripE).bind fun p => k p.1 p.2.1 p.2.2 := by
  cases x with
  | normal =>
    unfold hidD
    simp only
    cases okHid ms h h1 v <;> rfl
  | _ => rfl
theorem evD_nat (hE : EnvOk P env) (rp : Bool) (n : Nat) (op : Op) (ty : TypeId) (ρ : Operand → AVal) (h : List ABlk) (k : AExit → AVal → List ABlk → Option α) : evD real T env rp n op ty ρ h k = (evT T env rp n op ty ρ h).bind fun p => k p.1 p.2.1 p.2.2 := by
  unfold evT evD
  cases footOf env.fs rp n ρ op with
  | some q => exact evD0_nat hE ..
  | none =>
    simp only
    cases env.msk.isEmpty && env.lck.isEmpty
    · cases isAlloc rp op
      · cases okH env.msk env.lck h
        · rfl
        · simp only [cond_true, cond_false]
          rw [evOpH_nat hE, evOpH_nat hE (k := fun x v h1 => hidD env.msk env.lck h x v h1 tripE)]
          cases evOpH real T env true op ty ρ (hideH env.msk env.lck h) (fun x v h => some (x, v, h)) with
          | none => rfl
          | some p => exact hidD_nat ..
      · rfl
    · exact evD0_nat hE ..
theorem evT_local (hE : EnvOk P env) {rp : Bool} {n : Nat} {op : Op} {ty : TypeId} {ρ : Operand → AVal} {h : List ABlk} {x : AExit} {v : AVal} {h1 : List ABlk} {F W : List Nat} (hf : footOf env.fs rp n ρ op = some (F, W)) (hk : evT T env rp n op ty ρ h = some (x, v, h1)) :
    Local F W h h1 (evT T env rp n op ty ρ) x v := by
  have e : ∀ h', evT T env rp n op ty ρ h' = evT0 T env rp n op ty ρ h' := fun h' => evD_some hf
  have l := evT0_local hE hf (by rw [← e]; exact hk)
  exact ⟨l.sub, l.len, l.off, fun h' he => by rw [e]; exact l.all h' he⟩
theorem hid_get (f : Nat → ABlk → ABlk) : ∀ (l : List ABlk) (n i : Nat), (mapAt f n l)[i]? = (l[i]?).map (f (n + i))
  | [], n, i => by simp [mapAt]
  | b :: l, n, i => by
    cases i with
    | zero => simp [mapAt]
    | succ i =>
      simp only [mapAt, List.getElem?_cons_succ]
      rw [hid_get f l]
      congr 1
      rw [Nat.add_assoc, Nat.add_comm 1 i]
theorem hid_len (f : Nat → ABlk → ABlk) : ∀ (l : List ABlk) (n : Nat), (mapAt f n l).length = l.length
  | [], _ => rfl
  | b :: l, n => by simp [mapAt, hid_len f l]
theorem hideH_get (ms ls : List Nat) (h : List ABlk) (i : Nat) : (hideH ms ls h)[i]? = (h[i]?).map (hideB ms ls i) := by
  unfold hideH
  rw [hid_get, Nat.zero_add]
theorem showH_get (ms ls : List Nat) (h h1 : List ABlk) (i : Nat) : (showH ms ls h h1)[i]? = (h1[i]?).map fun b => bif ms.contains i || ls.contains i then h.getD i .dead else b := by
  unfold showH
  rw [hid_get, Nat.zero_add]
theorem okH_lt {ms ls : List Nat} {h : List ABlk} (ho : okH ms ls h = true) {i : Nat} (hi : (ms.contains i || ls.contains i) = true) : i < h.length := by
  unfold okH at ho
  rw [Bool.and_eq_true, List.all_eq_true, List.all_eq_true] at ho
  rw [Bool.or_eq_true] at hi
  rcases hi with hi | hi
  · exact of_decide_eq_true (ho.1 i (by simpa using hi))
  · have := ho.2 i (by simpa using hi)
    rw [Bool.and_eq_true] at this
    have hb := this.1
    unfold boxX at hb
    rcases Nat.lt_or_ge i h.length with hl | hl
    · exact hl
    · rw [List.getD_eq_getElem?_getD, List.getElem?_eq_none hl] at hb
      cases hb
theorem okH_box {ms ls : List Nat} {h : List ABlk} (ho : okH ms ls h = true) {i : Nat} (hi : ls.contains i = true) : (∃ wr cs, h[i]? = some (.box wr cs)) ∧ ms.contains i = false := by
  have hl := okH_lt ho (i := i) (by rw [hi, Bool.or_true])
  unfold okH at ho
  rw [Bool.and_eq_true, List.all_eq_true, List.all_eq_true] at ho
  have := ho.2 i (by simpa using hi)
  rw [Bool.and_eq_true, Bool.not_eq_true'] at this
  refine ⟨?_, this.2⟩
  have hb := this.1
  unfold boxX at hb
  rw [List.getD_eq_getElem?_getD, List.getElem?_eq_getElem hl] at hb
  rw [List.getElem?_eq_getElem hl]
  cases hx : h[i] with
  | box wr cs => exact ⟨wr, cs, rfl⟩
  | _ => rw [hx] at hb; cases hb
theorem okHid_len {ms : List Nat} {h h1 : List ABlk} {v : AVal} (ho : okHid ms h h1 v = true) : h.length ≤ h1.length := by
  unfold okHid at ho
  rw [Bool.and_eq_true] at ho
  exact of_decide_eq_true ho.1
structure HLocal (ms ls : List Nat) (h h1 : List ABlk) (D : List ABlk → Option (AExit × AVal × List ABlk)) (x : AExit) (v : AVal) : Prop where
  keep : ∀ i, (ms.contains i || ls.contains i) = true → h1[i]? = h[i]?
  all : ∀ h' : List ABlk, h'.length = h.length → (∀ i, ms.contains i = false → h'[i]? = h[i]?) → ∃ h1', D h' = some (x, v, h1') ∧ ∀ i, h1'[i]? = if ms.contains i = true then h'[i]? else h1[i]?
theorem evT_heavy (hE : EnvOk P env) {rp : Bool} {n : Nat} {op : Op} {ty : TypeId} {ρ : Operand → AVal} {h : List ABlk} {x : AExit} {v : AVal} {h1 : List ABlk} (hf : footOf env.fs rp n ρ op = none) (hk : evT T env rp n op ty ρ h = some (x, v, h1)) :
    HLocal env.msk env.lck h h1 (evT T env rp n op ty ρ) x v := by
  have e : ∀ h', evT T env rp n op ty ρ h' = (bif env.msk.isEmpty && env.lck.isEmpty then evD0 real T env rp n op ty ρ h' tripE
    else bif isAlloc rp op then none
    else bif okH env.msk env.lck h' then evOpH real T env true op ty ρ (hideH env.msk env.lck h') fun x v h1 => hidD env.msk env.lck h' x v h1 tripE
    else none) := fun h' => by
    unfold evT evD
    rw [hf]
  cases hz : env.msk.isEmpty && env.lck.isEmpty
  case true =>
    rw [Bool.and_eq_true, List.isEmpty_iff, List.isEmpty_iff] at hz
    refine ⟨fun i hi => ?_, fun h' _ he => ⟨h1, ?_, fun i => ?_⟩⟩
    · rw [hz.1, hz.2] at hi; cases hi
    · have : h' = h := List.ext_getElem? fun i => he i (by rw [hz.1]; rfl)
      rw [this]; exact hk
    · rw [hz.1]; rfl
  rw [e, hz, cond_false] at hk
  cases ha : isAlloc rp op
  case true => rw [ha] at hk; cases hk
  rw [ha, cond_false] at hk
  cases ho : okH env.msk env.lck h
  case false => rw [ho] at hk; cases hk
  rw [ho, cond_true, evOpH_nat hE] at hk
  cases hq : evOpH real T env true op ty ρ (hideH env.msk env.lck h) (fun x v h => some (x, v, h)) with
  | none => rw [hq] at hk; cases hk
  | some p =>
    obtain ⟨x0, v0, h0⟩ := p
    rw [hq, Option.bind_some] at hk
    cases x0 with
    | normal =>
      simp only [hidD] at hk
      cases hs : okHid env.msk h h0 v0
      · rw [hs] at hk; cases hk
      · rw [hs] at hk
        cases hk
        have hl0 := okHid_len hs
        refine ⟨fun i hi => ?_, fun h' hl he => ⟨showH env.msk env.lck h' h0, ?_, fun i => ?_⟩⟩
        · have hlt := okH_lt ho hi
          rw [showH_get, List.getElem?_eq_getElem (show i < h0.length by omega), hi, Option.map_some, cond_true, List.getD_eq_getElem?_getD, List.getElem?_eq_getElem hlt]
          rfl
        · have eh : hideH env.msk env.lck h' = hideH env.msk env.lck h := List.ext_getElem? fun i => by
            rw [hideH_get, hideH_get]
            cases hm : env.msk.contains i
            · rw [he i hm]
            · rcases Nat.lt_or_ge i h.length with hlt | hge
              · rw [List.getElem?_eq_getElem hlt, List.getElem?_eq_getElem (show i < h'.length by omega)]
                simp only [Option.map_some, hideB, hm, cond_true]
              · rw [List.getElem?_eq_none hge, List.getElem?_eq_none (by omega)]
          have eo : okH env.msk env.lck h' = true := by
            have ho' := ho
            unfold okH at ho ⊢
            rw [Bool.and_eq_true, List.all_eq_true, List.all_eq_true] at ho ⊢
            refine ⟨fun i hi => by rw [hl]; exact ho.1 i hi, fun i hi => ?_⟩
            have hb := okH_box ho' (i := i) (by simpa using hi)
            have h2 := ho.2 i hi
            have : boxX h' i = boxX h i := by
              unfold boxX
              rw [List.getD_eq_getElem?_getD, List.getD_eq_getElem?_getD, he i hb.2]
            rw [this]; exact h2
          have es : okHid env.msk h' h0 v = true := by
            unfold okHid at hs ⊢
            rw [hl]; exact hs
          rw [e, hz, cond_false, ha, cond_false, eo, cond_true, eh, evOpH_nat hE, hq, Option.bind_some]
          simp only [hidD, es, cond_true]
          rfl
        · rw [showH_get, showH_get]
          split
          · rename_i hm
            have hlt := okH_lt ho (i := i) (by rw [hm]; rfl)
            rw [List.getElem?_eq_getElem (show i < h0.length by omega), hm, Option.map_some, Bool.true_or, cond_true, List.getD_eq_getElem?_getD, List.getElem?_eq_getElem (show i < h'.length by omega)]
            rfl
          · rename_i hm
            have hm' : env.msk.contains i = false := by simpa using hm
            congr 1
            funext b
            cases env.msk.contains i || env.lck.contains i
            · rfl
            · rw [cond_true, cond_true, List.getD_eq_getElem?_getD, List.getD_eq_getElem?_getD, he i hm']
    | _ => cases hk
end
end Go.Proofs.Ytcbfmkfmdcabmaa

namespace Go.Proofs.Ytcbfmkfmdcabmaa
open Go.RowKit
theorem get_put {s : AS} {dst : Option Nat} {v : AVal} {d : Nat} (h : dst ≠ some d) : (s.put dst v).get d = s.get d := by
  cases dst with
  | none => rfl
  | some e =>
    have : e ≠ d := fun e' => h (by rw [e'])
    simp only [AS.get, AS.put, List.getD_eq_getElem?_getD, List.getElem?_set, if_neg this]
section
variable (T : Tab) (env : Env) (ops : Array Oper)
def outD (n : Nat) (o : Oper) (s : AS) : Option (AExit × AVal × List ABlk) :=
  match o.guard with
  | none => evT T env (rpOf ops.toList) n o.op o.type s.ev s.heap
  | some (j, want) =>
    match (ops[j]?).bind (·.dst) with
    | none => none
    | some d =>
      match s.get d with
      | .bool b => if b = want then evT T env (rpOf ops.toList) n o.op o.type s.ev s.heap else some (.normal, .undef, s.heap)
      | .undef => some (.normal, .undef, s.heap)
      | _ => none
def footD (n : Nat) (o : Oper) (s : AS) : Foot :=
  match o.guard with
  | none => footOf env.fs (rpOf ops.toList) n s.ev o.op
  | some (j, want) =>
    match (ops[j]?).bind (·.dst) with
    | none => Foot.no
    | some d =>
      match s.get d with
      | .bool b => if b = want then footOf env.fs (rpOf ops.toList) n s.ev o.op else Foot.no
      | _ => Foot.no
def appD (o : Oper) (s : AS) (x : AExit) (v : AVal) (h : List ABlk) : AS :=
  match x with
  | .normal => ({ s with heap := h } : AS).put o.dst v
  | _ => { s with heap := h }
abbrev DSt := AS × Option AVal
def panD (x : AExit) (p : Option AVal) : Option (Option AVal) :=
  match x with
  | .normal => some p
  | .pan u => match p with
    | none => some (some u)
    | some u' => if samePan u' u = true then some p else none
  | _ => none
def isPan : AExit → Bool
  | .pan _ => true
  | _ => false
abbrev En := Nat × Foot × Bool
def stepE (base : Nat) (e : En) (d : DSt) : Option DSt :=
  match ops[e.1]? with
  | none => none
  | some o =>
    if footD env ops (placeOf base ops.toList e.1) o d.1 = e.2.1 then
      (outD T env ops (placeOf base ops.toList e.1) o d.1).bind fun q => if isPan q.1 = e.2.2 then (panD q.1 d.2).map fun p => (appD o d.1 q.1 q.2.1 q.2.2, p) else none
    else none
def foldE (base : Nat) : List En → DSt → Option DSt
  | [], d => some d
  | e :: r, d => (stepE T env ops base e d).bind (foldE base r)
end
section
variable {P : Program} {T : Tab} {env : Env} {ops : Array Oper}
theorem appD_heap (o : Oper) (s : AS) (x : AExit) (v : AVal) (h : List ABlk) : (appD o s x v h).heap = h := by
  cases x with
  | normal => exact put_heap _ _ _
  | _ => rfl
theorem footOf_congr {fs : FuncId → Option Fsp} {rp : Bool} {n : Nat} {op : Op} {ρ ρ' : Operand → AVal} (he : ∀ x ∈ op.operands.toList, ρ' x = ρ x) : footOf fs rp n ρ' op = footOf fs rp n ρ op := by
  have hl : ∀ (l : List Operand), (∀ x ∈ l, ρ' x = ρ x) → l.map ρ' = l.map ρ := fun l hl => List.map_congr_left hl
  cases op
  case store t a y => simp only [footOf, he a (by simp [Op.operands])]
  case load t a => simp only [footOf, he a (by simp [Op.operands])]
  case nilCheck a => simp only [footOf, he a (by simp [Op.operands])]
  case fieldAddr t a f => simp only [footOf, he a (by simp [Op.operands])]
  case indexAddr t a ix => simp only [footOf, he a (by simp [Op.operands])]
  case slice t x lo hi mx => simp only [footOf, he x (by simp [Op.operands])]
  case buildSlice t len parts =>
    have h1 : oneP ρ' parts.toList = oneP ρ parts.toList := by
      have hx : ∀ p ∈ parts.toList, ρ' p.2 = ρ p.2 := fun p hp => he p.2 (by simp [Op.operands]; exact ⟨p.1, by simpa using hp⟩)
      generalize parts.toList = l at hx
      unfold oneP
      split
      · rename_i i x
        rw [hx (i, x) (by simp)]
      · rfl
    have h2 : oneO ρ' parts.toList = oneO ρ parts.toList := by
      have hx : ∀ p ∈ parts.toList, ρ' p.2 = ρ p.2 := fun p hp => he p.2 (by simp [Op.operands]; exact ⟨p.1, by simpa using hp⟩)
      generalize parts.toList = l at hx
      unfold oneO
      split
      · rename_i x
        rw [hx (0, x) (by simp)]
      · rfl
    simp only [footOf, h1, h2]
  case call c =>
    obtain ⟨callee, args, ts⟩ := c
    cases callee with
    | value f =>
      have hf := he f (by simp [Op.operands, Call.operands])
      have ha := hl args.toList fun x hx => he x (by simp [Op.operands, Call.operands]; exact .inr (by simpa using hx))
      simp only [footOf, hf, ha]
    | invoke x m => rfl
    | builtin b =>
      have ha : ∀ x ∈ args.toList, ρ' x = ρ x := fun x hx => he x (by simp [Op.operands, Call.operands]; simpa using hx)
      cases b
      case len =>
        simp only [footOf]
        split
        · rename_i x h1
          rw [ha x (by rw [h1]; simp)]
        · rfl
      case append =>
        simp only [footOf]
        cases rp
        · rfl
        · simp only [cond_true]
          split
          · rename_i x y h1
            rw [ha x (by rw [h1]; simp), ha y (by rw [h1]; simp)]
          · rfl
      all_goals rfl
  all_goals rfl
theorem outD_congr {n : Nat} {o : Oper} {s s' : AS} (h' : ∀ d ∈ o.looksAt ops, s'.get d = s.get d) (hh : s'.heap = s.heap) : outD T env ops n o s' = outD T env ops n o s := by
  unfold outD
  have e : evT T env (rpOf ops.toList) n o.op o.type s'.ev s'.heap = evT T env (rpOf ops.toList) n o.op o.type s.ev s.heap := by
    have c := fun h k => evOpH_congr (α := AExit × AVal × List ABlk) (T := T) (env := env) true o.op o.type s.ev s'.ev h k (ev_same h')
    unfold evT evD evD0
    rw [hh, footOf_congr (ev_same h')]
    simp only [c]
  rw [e]
  cases hg : o.guard with
  | none => rfl
  | some jw =>
    obtain ⟨j, want⟩ := jw
    simp only
    cases hd : (ops[j]?).bind (·.dst) with
    | none => rfl
    | some d =>
      simp only
      rw [h' d (by simp [Oper.looksAt, hg, hd]), hh]
theorem footD_congr {n : Nat} {o : Oper} {s s' : AS} (h : ∀ d ∈ o.looksAt ops, s'.get d = s.get d) : footD env ops n o s' = footD env ops n o s := by
  unfold footD
  rw [footOf_congr (ev_same h)]
  cases hg : o.guard with
  | none => rfl
  | some jw =>
    obtain ⟨j, want⟩ := jw
    simp only
    cases hd : (ops[j]?).bind (·.dst) with
    | none => rfl
    | some d =>
      simp only
      rw [h d (by simp [Oper.looksAt, hg, hd])]
theorem outD_local (hE : EnvOk P env) {n : Nat} {o : Oper} {s : AS} {x : AExit} {v : AVal} {h1 : List ABlk} {F W : List Nat} (hf : footD env ops n o s = some (F, W)) (hk : outD T env ops n o s = some (x, v, h1)) :
    Local F W s.heap h1 (fun h' => outD T env ops n o { s with heap := h' }) x v := by
  have hev : ∀ h', ({ s with heap := h' } : AS).ev = s.ev := fun h' => by funext y; cases y <;> rfl
  have pass : outD T env ops n o s = some (.normal, .undef, s.heap) → footD env ops n o s = Foot.no → (∀ h', outD T env ops n o { s with heap := h' } = some (.normal, .undef, h')) → Local F W s.heap h1 (fun h' => outD T env ops n o { s with heap := h' }) x v := fun p1 p2 p3 => by
    rw [p1] at hk
    rw [p2] at hf
    simp only [Foot.no, Prod.mk.injEq, Option.some.injEq] at hf
    obtain ⟨rfl, rfl⟩ := hf
    cases hk
    exact .same fun h' _ => p3 h'
  have go : footOf env.fs (rpOf ops.toList) n s.ev o.op = some (F, W) → evT T env (rpOf ops.toList) n o.op o.type s.ev s.heap = some (x, v, h1) → (∀ h', outD T env ops n o { s with heap := h' } = evT T env (rpOf ops.toList) n o.op o.type s.ev h') → Local F W s.heap h1 (fun h' => outD T env ops n o { s with heap := h' }) x v := fun p1 p2 p3 => by
    have l := evT_local hE p1 p2
    exact ⟨l.sub, l.len, l.off, fun h' he => by rw [p3 h']; exact l.all h' he⟩
  cases hg : o.guard with
  | none =>
    have e : ∀ s', outD T env ops n o s' = evT T env (rpOf ops.toList) n o.op o.type s'.ev s'.heap := fun s' => by simp only [outD, hg]
    rw [e] at hk
    exact go (by simpa only [footD, hg] using hf) hk fun h' => by rw [e, hev]
  | some jw =>
    obtain ⟨j, want⟩ := jw
    cases hd : (ops[j]?).bind (·.dst) with
    | none => simp only [outD, hg, hd] at hk; cases hk
    | some d =>
      have hget : ∀ h', ({ s with heap := h' } : AS).get d = s.get d := fun h' => rfl
      cases hs : s.get d with
      | bool b =>
        by_cases hb : b = want
        · have e : ∀ h', outD T env ops n o { s with heap := h' } = evT T env (rpOf ops.toList) n o.op o.type s.ev h' := fun h' => by simp only [outD, hg, hd, hget, hs, hb, if_true, hev]
          exact go (by simpa only [footD, hg, hd, hs, hb, if_true] using hf) (by rw [← e]; exact hk) e
        · exact pass (by simp [outD, hg, hd, hs, hb]) (by simp [footD, hg, hd, hs, hb]) fun h' => by simp [outD, hg, hd, hget, hs, hb]
      | undef => exact pass (by simp [outD, hg, hd, hs]) (by simp [footD, hg, hd, hs]) fun h' => by simp [outD, hg, hd, hget, hs]
      | _ => simp [outD, hg, hd, hs] at hk
theorem outD_heavy (hE : EnvOk P env) {n : Nat} {o : Oper} {s : AS} {x : AExit} {v : AVal} {h1 : List ABlk} (hf : footD env ops n o s = none) (hk : outD T env ops n o s = some (x, v, h1)) :
    HLocal env.msk env.lck s.heap h1 (fun h' => outD T env ops n o { s with heap := h' }) x v := by
  have hev : ∀ h', ({ s with heap := h' } : AS).ev = s.ev := fun h' => by funext y; cases y <;> rfl
  have go : footOf env.fs (rpOf ops.toList) n s.ev o.op = none → evT T env (rpOf ops.toList) n o.op o.type s.ev s.heap = some (x, v, h1) → (∀ h', outD T env ops n o { s with heap := h' } = evT T env (rpOf ops.toList) n o.op o.type s.ev h') → HLocal env.msk env.lck s.heap h1 (fun h' => outD T env ops n o { s with heap := h' }) x v := fun p1 p2 p3 => by
    have l := evT_heavy hE p1 p2
    exact ⟨l.keep, fun h' hl he => by rw [p3 h']; exact l.all h' hl he⟩
  cases hg : o.guard with
  | none =>
    have e : ∀ s', outD T env ops n o s' = evT T env (rpOf ops.toList) n o.op o.type s'.ev s'.heap := fun s' => by simp only [outD, hg]
    rw [e] at hk
    exact go (by simpa only [footD, hg] using hf) hk fun h' => by rw [e, hev]
  | some jw =>
    obtain ⟨j, want⟩ := jw
    cases hd : (ops[j]?).bind (·.dst) with
    | none => simp only [outD, hg, hd] at hk; cases hk
    | some d =>
      have hget : ∀ h', ({ s with heap := h' } : AS).get d = s.get d := fun h' => rfl
      cases hs : s.get d with
      | bool b =>
        by_cases hb : b = want
        · have e : ∀ h', outD T env ops n o { s with heap := h' } = evT T env (rpOf ops.toList) n o.op o.type s.ev h' := fun h' => by simp only [outD, hg, hd, hget, hs, hb, if_true, hev]
          exact go (by simpa only [footD, hg, hd, hs, hb, if_true] using hf) (by rw [← e]; exact hk) e
        · simp [footD, hg, hd, hs, hb, Foot.no] at hf
      | undef => simp [footD, hg, hd, hs, Foot.no] at hf
      | _ => simp [outD, hg, hd, hs] at hk
theorem app_get {o : Oper} {s : AS} {x : AExit} {v : AVal} {h : List ABlk} {d : Nat} (hd : o.dst ≠ some d) : (appD o s x v h).get d = s.get d := by
  cases x with
  | normal => exact get_put hd
  | _ => rfl
theorem app_two {x y : Oper} {s : AS} {e1 e2 : AExit} {u v : AVal} {h1 h2 h3 : List ABlk} (hne : ∀ d, x.dst = some d → y.dst ≠ some d) :
    appD y (appD x s e1 u h1) e2 v h2 = appD x (appD y s e2 v h3) e1 u h2 := by
  have two : ({ (({ s with heap := h1 } : AS).put x.dst u) with heap := h2 } : AS).put y.dst v = ({ (({ s with heap := h3 } : AS).put y.dst v) with heap := h2 } : AS).put x.dst u := by
    cases hx : x.dst with
    | none => cases y.dst <;> rfl
    | some d =>
      cases hy : y.dst with
      | none => rfl
      | some e =>
        have : d ≠ e := fun e' => hne d hx (by rw [e']; exact hy)
        simp only [AS.put]
        rw [List.set_comm _ _ this]
  have one : ∀ (o : Oper) (u : AVal) (h h' : List ABlk), ({ (({ s with heap := h } : AS).put o.dst u) with heap := h' } : AS) = ({ s with heap := h' } : AS).put o.dst u := fun o u h h' => by cases o.dst <;> rfl
  cases e1 <;> cases e2 <;> simp only [appD] <;> first
    | exact two
    | exact one _ _ _ _
    | exact (one _ _ _ _).symm
    | rfl
/-! Addresses of parts hang on the kinds of blocks alone. -/
def skB : ABlk → Option (Option (Sh × Nat))
  | .box _ _ => some none
  | .row _ _ e xs => some (some (e, xs.length))
  | _ => none
def Skel (h h' : List ABlk) : Prop := ∀ i, skB (h'.getD i .dead) = skB (h.getD i .dead)
theorem Skel.symm {h h' : List ABlk} (s : Skel h h') : Skel h' h := fun i => (s i).symm
theorem live_skel {h h' : List ABlk} (s : Skel h h') (v : AVal) : v.livePtr h' = v.livePtr h := by
  cases v with
  | op i off =>
    have := s i
    simp only [AVal.livePtr]
    cases h1 : h.getD i .dead <;> cases h2 : h'.getD i .dead <;> rw [h1, h2] at this <;> first | rfl | (simp [skB] at this)
  | oe i ix off =>
    have := s i
    simp only [AVal.livePtr]
    cases h1 : h.getD i .dead <;> cases h2 : h'.getD i .dead <;> rw [h1, h2] at this <;> first | rfl | (simp [skB] at this; done) | (simp only [skB, Option.some.injEq, Prod.mk.injEq] at this; obtain ⟨rfl, _⟩ := this; rfl)
  | _ => rfl
theorem faddr_skel {β : Type} {h h' : List ABlk} (s : Skel h h') (t : TypeId) (x : AVal) (f : Nat) (k : AVal → Option β) : evFieldAddr T t x f h' k = evFieldAddr T t x f h k := by
  unfold evFieldAddr
  rw [live_skel s]
theorem iaddr_skel {β : Type} {h h' : List ABlk} (s : Skel h h') (t : TypeId) (x iv : AVal) (k : AVal → Option β) : evIndexAddr real T t x iv h' k = evIndexAddr real T t x iv h k := by
  unfold evIndexAddr
  rw [live_skel s]
  split
  · split
    · split
      · rfl
      · rename_i i
        have := s i
        cases h1 : h.getD i .dead <;> cases h2 : h'.getD i .dead <;> rw [h1, h2] at this <;> first | rfl | (simp [skB] at this; done) | skip
        rename_i w1 t1 e1 x1 w2 t2 e2 x2
        simp only [skB, Option.some.injEq, Prod.mk.injEq] at this
        obtain ⟨rfl, hl⟩ := this
        simp only []
        generalize x2.length = n2 at hl ⊢
        subst hl
        rfl
      · rfl
    · rfl
    · rfl
  · rfl
theorem store_skel {t : TypeId} {a v : AVal} {h h1 : List ABlk} (hk : evStore T t a v h some = some h1) : Skel h h1 := by
  unfold evStore at hk
  split at hk
  case isFalse => cases hk
  split at hk
  case isFalse => cases hk
  have at' : ∀ (i : Nat) (b b0 : ABlk), h.getD i .dead = b0 → b0 ≠ .dead → skB b = skB b0 → Skel h (h.set i b) := fun i b b0 hb hd hs j => by
    by_cases e : i = j
    · subst e
      rw [hb, ← hs, List.getD_eq_getElem?_getD, List.getElem?_set, if_pos rfl]
      by_cases hl : i < h.length
      · rw [if_pos hl]; rfl
      · exfalso
        rw [List.getD_eq_getElem?_getD, List.getElem?_eq_none (by omega)] at hb
        exact hd hb.symm
    · rw [List.getD_eq_getElem?_getD, List.getElem?_set_ne e, ← List.getD_eq_getElem?_getD]
  split at hk
  · split at hk
    · split at hk
      · rename_i hb _
        cases hk
        exact at' _ _ _ hb (by simp) rfl
      · cases hk
    · cases hk
  · split at hk
    · split at hk
      · split at hk
        · rename_i hb _ _ _ _
          cases hk
          exact at' _ _ _ hb (by simp) (by simp [skB])
        · cases hk
      · cases hk
    · cases hk
  · cases hk
theorem outD_addr {n : Nat} {o : Oper} {s : AS} {x : AExit} {v : AVal} {h1 : List ABlk} (ho : addrO o.op = true) (hf : (footD env ops n o s).isSome = true) (hk : outD T env ops n o s = some (x, v, h1)) : h1 = s.heap ∧ ∀ h', Skel s.heap h' → outD T env ops n o { s with heap := h' } = some (x, v, h') := by
  have hev : ∀ h', ({ s with heap := h' } : AS).ev = s.ev := fun h' => by funext y; cases y <;> rfl
  have go : ∀ (h1 : List ABlk), (footOf env.fs (rpOf ops.toList) n s.ev o.op).isSome = true → evT T env (rpOf ops.toList) n o.op o.type s.ev s.heap = some (x, v, h1) → h1 = s.heap ∧ ∀ h', Skel s.heap h' → evT T env (rpOf ops.toList) n o.op o.type s.ev h' = some (x, v, h') := fun h1 p1 p2 => by
    have e0 : ∀ h', evT T env (rpOf ops.toList) n o.op o.type s.ev h' = evOpH real T env true o.op o.type s.ev h' tripE := fun h' => by
      unfold evT evD evD0
      cases hq : footOf env.fs (rpOf ops.toList) n s.ev o.op with
      | none => rw [hq] at p1; cases p1
      | some q =>
        have : isAlloc (rpOf ops.toList) o.op = false := by
          cases ho' : o.op <;> rw [ho'] at ho <;> first | (cases ho; done) | (cases rpOf ops.toList <;> rfl)
        simp only [this, cond_false]
    rw [e0] at p2
    cases ho' : o.op <;> rw [ho'] at ho <;> first | (cases ho; done) | skip
    · rename_i t y f
      rw [ho'] at p2
      have nat : ∀ h' : List ABlk, Skel s.heap h' → evOpH real T env true (.fieldAddr t y f) o.type s.ev h' tripE = (evFieldAddr T t (s.ev y) f s.heap some).bind fun v => some (.normal, v, h') := fun h' hs => by
        show evFieldAddr T t (s.ev y) f h' (fun v => some (AExit.normal, v, h')) = _
        rw [faddr_skel hs]
        exact evFieldAddr_nat ..
      rw [nat _ fun _ => rfl] at p2
      cases hq : evFieldAddr T t (s.ev y) f s.heap some with
      | none => rw [hq] at p2; cases p2
      | some u =>
        rw [hq] at p2
        cases p2
        refine ⟨rfl, fun h' hs => ?_⟩
        have e1 := e0 h'
        rw [ho'] at e1
        rw [e1, nat h' hs, hq]; rfl
    · rename_i t y ix
      rw [ho'] at p2
      have nat : ∀ h' : List ABlk, Skel s.heap h' → evOpH real T env true (.indexAddr t y ix) o.type s.ev h' tripE = (evIndexAddr real T t (s.ev y) (s.ev ix) s.heap some).bind fun v => some (.normal, v, h') := fun h' hs => by
        show evIndexAddr real T t (s.ev y) (s.ev ix) h' (fun v => some (AExit.normal, v, h')) = _
        rw [iaddr_skel hs]
        exact evIndexAddr_nat ..
      rw [nat _ fun _ => rfl] at p2
      cases hq : evIndexAddr real T t (s.ev y) (s.ev ix) s.heap some with
      | none => rw [hq] at p2; cases p2
      | some u =>
        rw [hq] at p2
        cases p2
        refine ⟨rfl, fun h' hs => ?_⟩
        have e1 := e0 h'
        rw [ho'] at e1
        rw [e1, nat h' hs, hq]; rfl
  cases hg : o.guard with
  | none =>
    have e : ∀ s', outD T env ops n o s' = evT T env (rpOf ops.toList) n o.op o.type s'.ev s'.heap := fun s' => by simp only [outD, hg]
    rw [e] at hk
    obtain ⟨q1, q2⟩ := go h1 (by simpa only [footD, hg] using hf) hk
    exact ⟨q1, fun h' hs => by rw [e, hev]; exact q2 h' hs⟩
  | some jw =>
    obtain ⟨j, want⟩ := jw
    cases hd : (ops[j]?).bind (·.dst) with
    | none => simp only [outD, hg, hd] at hk; cases hk
    | some d =>
      have hget : ∀ h', ({ s with heap := h' } : AS).get d = s.get d := fun h' => rfl
      cases hs : s.get d with
      | bool b =>
        by_cases hb : b = want
        · have e : ∀ h', outD T env ops n o { s with heap := h' } = evT T env (rpOf ops.toList) n o.op o.type s.ev h' := fun h' => by simp only [outD, hg, hd, hget, hs, hb, if_true, hev]
          obtain ⟨q1, q2⟩ := go h1 (by simpa only [footD, hg, hd, hs, hb, if_true] using hf) (by rw [← e]; exact hk)
          exact ⟨q1, fun h' hs => by rw [e]; exact q2 h' hs⟩
        · have e : ∀ h', outD T env ops n o { s with heap := h' } = some (.normal, .undef, h') := fun h' => by simp [outD, hg, hd, hget, hs, hb]
          have hk' : outD T env ops n o { s with heap := s.heap } = some (x, v, h1) := hk
          rw [e] at hk'
          cases hk'
          exact ⟨rfl, fun h' _ => e h'⟩
      | undef =>
        have e : ∀ h', outD T env ops n o { s with heap := h' } = some (.normal, .undef, h') := fun h' => by simp [outD, hg, hd, hget, hs]
        have hk' : outD T env ops n o { s with heap := s.heap } = some (x, v, h1) := hk
        rw [e] at hk'
        cases hk'
        exact ⟨rfl, fun h' _ => e h'⟩
      | _ => simp [outD, hg, hd, hs] at hk
theorem outD_sto {n : Nat} {o : Oper} {s : AS} {x : AExit} {v : AVal} {h1 : List ABlk} (ho : stoO o.op = true) (hf : (footD env ops n o s).isSome = true) (hk : outD T env ops n o s = some (x, v, h1)) : Skel s.heap h1 := by
  have go : ∀ (h1 : List ABlk), (footOf env.fs (rpOf ops.toList) n s.ev o.op).isSome = true → evT T env (rpOf ops.toList) n o.op o.type s.ev s.heap = some (x, v, h1) → Skel s.heap h1 := fun h1 p1 p2 => by
    cases ho' : o.op <;> rw [ho'] at ho <;> first | (cases ho; done) | skip
    rename_i t y z
    unfold evT evD evD0 at p2
    rw [ho'] at p1 p2
    cases hq : footOf env.fs (rpOf ops.toList) n s.ev (.store t y z) with
    | none => rw [hq] at p1; cases p1
    | some q =>
      rw [hq] at p2
      have : isAlloc (rpOf ops.toList) (.store t y z) = false := by cases rpOf ops.toList <;> rfl
      simp only [this, cond_false] at p2
      have p3 : evStore T t (s.ev y) (s.ev z) s.heap (fun h' => some (AExit.normal, AVal.undef, h')) = some (x, v, h1) := p2
      have nat : evStore T t (s.ev y) (s.ev z) s.heap (fun h' => some (AExit.normal, AVal.undef, h')) = (evStore T t (s.ev y) (s.ev z) s.heap some).bind fun h' => some (.normal, .undef, h') := evStore_nat ..
      rw [nat] at p3
      cases hq : evStore T t (s.ev y) (s.ev z) s.heap some with
      | none => rw [hq] at p3; cases p3
      | some u =>
        rw [hq] at p3
        cases p3
        exact store_skel hq
  cases hg : o.guard with
  | none =>
    have e : ∀ s', outD T env ops n o s' = evT T env (rpOf ops.toList) n o.op o.type s'.ev s'.heap := fun s' => by simp only [outD, hg]
    rw [e] at hk
    exact go h1 (by simpa only [footD, hg] using hf) hk
  | some jw =>
    obtain ⟨j, want⟩ := jw
    cases hd : (ops[j]?).bind (·.dst) with
    | none => simp only [outD, hg, hd] at hk; cases hk
    | some d =>
      cases hs : s.get d with
      | bool b =>
        by_cases hb : b = want
        · have e : outD T env ops n o s = evT T env (rpOf ops.toList) n o.op o.type s.ev s.heap := by simp only [outD, hg, hd, hs, hb, if_true]
          exact go h1 (by simpa only [footD, hg, hd, hs, hb, if_true] using hf) (by rw [← e]; exact hk)
        · have e : outD T env ops n o s = some (.normal, .undef, s.heap) := by simp [outD, hg, hd, hs, hb]
          rw [e] at hk
          cases hk
          exact fun _ => rfl
      | undef =>
        have e : outD T env ops n o s = some (.normal, .undef, s.heap) := by simp [outD, hg, hd, hs]
        rw [e] at hk
        cases hk
        exact fun _ => rfl
      | _ => simp [outD, hg, hd, hs] at hk
theorem out_swap (hE : EnvOk P env) {nx ny : Nat} {x y : Oper} {s : AS} {ex ey : AExit} {u v : AVal} {hx hy : List ABlk} (hap : Oper.apart ops x y = true) (hf : (apartF env.msk env.lck (footD env ops nx x s) (footD env ops ny y s) || adstB x (footD env ops nx x s) y (footD env ops ny y s)) = true)
    (h1 : outD T env ops nx x s = some (ex, u, hx)) (h2 : outD T env ops ny y (appD x s ex u hx) = some (ey, v, hy)) :
    ∃ hy', outD T env ops ny y s = some (ey, v, hy') ∧ outD T env ops nx x (appD y s ey v hy') = some (ex, u, hy) := by
  obtain ⟨a1, a2, a3⟩ := Oper.apart_spec hap
  have c1 : ∀ d ∈ y.looksAt ops, (appD x s ex u hx).get d = s.get d := fun d hd => app_get fun e => a1 d e hd
  have c2 : ∀ hy', ∀ d ∈ x.looksAt ops, (appD y s ey v hy').get d = s.get d := fun hy' d hd => app_get fun e => a3 d e hd
  have h2' : outD T env ops ny y { s with heap := hx } = some (ey, v, hy) := by
    rw [← h2]
    exact (outD_congr (s := { s with heap := hx }) (s' := appD x s ex u hx) (fun d hd => c1 d hd) (appD_heap _ _ _ _ _)).symm
  have xat : ∀ hy', outD T env ops nx x (appD y s ey v hy') = outD T env ops nx x { s with heap := hy' } := fun hy' => outD_congr (fun d hd => c2 hy' d hd) (appD_heap _ _ _ _ _)
  have fy0 : footD env ops ny y { s with heap := hx } = footD env ops ny y s := footD_congr fun _ _ => rfl
  have fin : ∀ hy', outD T env ops ny y s = some (ey, v, hy') → outD T env ops nx x { s with heap := hy' } = some (ex, u, hy) → ∃ hy', outD T env ops ny y s = some (ey, v, hy') ∧ outD T env ops nx x (appD y s ey v hy') = some (ex, u, hy) :=
    fun hy' q1 q2 => ⟨hy', q1, by rw [xat]; exact q2⟩
  have hid : ∀ {F W : List Nat}, hidF env.msk env.lck (F, W) = true → (∀ i ∈ F, (env.msk.contains i || env.lck.contains i) = true) ∧ ∀ i ∈ W, env.msk.contains i = true := fun {F W} h => by
    unfold hidF at h
    rw [Bool.and_eq_true, List.all_eq_true, List.all_eq_true] at h
    exact h
  rw [Bool.or_eq_true] at hf
  rcases hf with hf | hf
  case inr =>
    unfold adstB at hf
    simp only [Bool.and_eq_true, Bool.or_eq_true] at hf
    obtain ⟨⟨f1, f2⟩, ⟨k1, k2⟩ | ⟨k1, k2⟩⟩ := hf
    · obtain ⟨rfl, q⟩ := outD_addr k1 f1 h1
      have sk := outD_sto (s := { s with heap := s.heap }) k2 (by rw [fy0]; exact f2) h2'
      exact fin hy h2' (q hy sk)
    · have sk := outD_sto k1 f1 h1
      obtain ⟨e, q⟩ := outD_addr (s := { s with heap := hx }) k2 (by rw [fy0]; exact f2) h2'
      have q' := q s.heap sk.symm
      have e : hy = hx := e
      subst e
      exact fin s.heap q' h1
  cases hfx : footD env ops nx x s with
  | none =>
    cases hfy : footD env ops ny y s with
    | none => rw [hfx, hfy] at hf; cases hf
    | some q =>
      obtain ⟨Fy, Wy⟩ := q
      rw [hfx, hfy] at hf
      have ly := outD_local (s := { s with heap := hx }) hE (by rw [fy0, hfy]) h2'
      have lx := outD_heavy hE hfx h1
      obtain ⟨f1, f2⟩ := hid (show hidF env.msk env.lck (Fy, Wy) = true from hf)
      obtain ⟨hy', q1, q2, q3, q4⟩ := ly.all s.heap fun i hi => (lx.keep i (f1 i hi)).symm
      obtain ⟨hx', r1, r2⟩ := lx.all hy' q2 fun i hi => q4 i fun h => by rw [f2 i h] at hi; cases hi
      have e : hx' = hy := List.ext_getElem? fun i => by
        rw [r2 i]
        by_cases h1 : i ∈ Wy
        · rw [if_pos (f2 i h1)]
          exact q3 i h1
        · split
          · rename_i hm
            rw [q4 i h1]
            exact ((ly.off i h1).trans (lx.keep i (by rw [hm]; rfl))).symm
          · exact (ly.off i h1).symm
      subst e
      exact fin _ q1 r1
  | some p =>
    obtain ⟨Fx, Wx⟩ := p
    have lx := outD_local hE hfx h1
    cases hfy : footD env ops ny y s with
    | none =>
      rw [hfx, hfy] at hf
      have ly := outD_heavy (s := { s with heap := hx }) hE (by rw [fy0, hfy]) h2'
      obtain ⟨f1, f2⟩ := hid (show hidF env.msk env.lck (Fx, Wx) = true from hf)
      have nm : ∀ i, env.msk.contains i = false → i ∉ Wx := fun i hi h => by rw [f2 i h] at hi; cases hi
      obtain ⟨hy', q1, q2⟩ := ly.all s.heap lx.len.symm fun i hi => (lx.off i (nm i hi)).symm
      have q1' : outD T env ops ny y s = some (ey, v, hy') := q1
      have kp : ∀ i, (env.msk.contains i || env.lck.contains i) = true → hy[i]? = hx[i]? := ly.keep
      obtain ⟨hx', r1, _, r3, r4⟩ := lx.all hy' fun i hi => by
        rw [q2 i]
        split
        · rfl
        · rename_i hm
          rw [kp i (f1 i hi)]
          exact lx.off i (nm i (by simpa using hm))
      have e : hx' = hy := List.ext_getElem? fun i => by
        by_cases h1 : i ∈ Wx
        · rw [r3 i h1]
          exact (kp i (by rw [f2 i h1]; rfl)).symm
        · rw [r4 i h1, q2 i]
          split
          · rename_i hm
            rw [kp i (by rw [hm]; rfl)]
            exact (lx.off i h1).symm
          · rfl
      subst e
      exact fin _ q1' r1
    | some q =>
      obtain ⟨Fy, Wy⟩ := q
      rw [hfx, hfy] at hf
      have ly := outD_local (s := { s with heap := hx }) hE (by rw [fy0, hfy]) h2'
      simp only [apartF, Bool.and_eq_true, List.all_eq_true, Bool.not_eq_true', List.contains_eq_mem, decide_eq_false_iff_not] at hf
      obtain ⟨o1, o2⟩ := hf
      obtain ⟨hy', q1, q2, q3, q4⟩ := ly.all s.heap fun i hi => (lx.off i fun h => o1 i h hi).symm
      obtain ⟨hx', r1, r2, r3, r4⟩ := lx.all hy' fun i hi => q4 i fun h => o2 i h hi
      have e : hx' = hy := List.ext_getElem? fun i => by
        by_cases h1 : i ∈ Wx
        · rw [r3 i h1]
          exact (ly.off i fun h => o2 i h (lx.sub i h1)).symm
        · rw [r4 i h1]
          by_cases h2 : i ∈ Wy
          · exact q3 i h2
          · rw [q4 i h2]
            exact ((ly.off i h2).trans (lx.off i h1)).symm
      subst e
      exact fin _ q1 r1
theorem samePan_eq {u v : AVal} (h : samePan u v = true) : u = v := by
  unfold samePan at h
  split at h
  · obtain ⟨h1, h2, h3⟩ := of_decide_eq_true h
    rw [h1, h2, h3]
  · cases h
theorem panD_swap {x y : AExit} {p p1 p2 : Option AVal} (h1 : panD x p = some p1) (h2 : panD y p1 = some p2) : ∃ p3, panD y p = some p3 ∧ panD x p3 = some p2 := by
  cases x <;> simp only [panD] at h1 <;> first | cases h1 | skip
  · exact ⟨p2, h2, rfl⟩
  · rename_i u
    split at h1
    · cases h1
      cases y <;> simp only [panD] at h2 <;> first | cases h2 | skip
      · exact ⟨none, rfl, rfl⟩
      · rename_i v
        split at h2
        · rename_i hs
          cases h2
          have e := samePan_eq hs
          subst e
          exact ⟨some u, rfl, by simp only [panD]; rw [if_pos hs]⟩
        · cases h2
    · rename_i u'
      split at h1
      · rename_i hs
        cases h1
        refine ⟨p2, h2, ?_⟩
        have : p2 = some u' := by
          cases y <;> simp only [panD] at h2 <;> first | (cases h2; rfl) | cases h2 | skip
          split at h2
          · cases h2; rfl
          · cases h2
        subst this
        simp only [panD]
        rw [if_pos hs]
      · cases h1
theorem stepE_some {base : Nat} {e : En} {d d' : DSt} (h : stepE T env ops base e d = some d') :
    ∃ o x v h1 p, ops[e.1]? = some o ∧ footD env ops (placeOf base ops.toList e.1) o d.1 = e.2.1 ∧ outD T env ops (placeOf base ops.toList e.1) o d.1 = some (x, v, h1) ∧ (isPan x = e.2.2 ∧ panD x d.2 = some p) ∧ d' = (appD o d.1 x v h1, p) := by
  unfold stepE at h
  split at h
  · cases h
  · rename_i o ho
    split at h
    · rename_i hf
      cases hq : outD T env ops (placeOf base ops.toList e.1) o d.1 with
      | none => rw [hq] at h; cases h
      | some q =>
        obtain ⟨x, v, h1⟩ := q
        rw [hq] at h
        simp only [Option.bind_some] at h
        split at h
        · rename_i hpn
          cases hp : panD x d.2 with
          | none => rw [hp] at h; cases h
          | some p =>
            rw [hp] at h
            cases h
            exact ⟨o, x, v, h1, p, ho, hf, hq, ⟨hpn, hp⟩, rfl⟩
        · cases h
    · cases h
theorem stepE_of {base : Nat} {e : En} {d : DSt} {o : Oper} {x : AExit} {v : AVal} {h1 : List ABlk} {p : Option AVal} (ho : ops[e.1]? = some o) (hf : footD env ops (placeOf base ops.toList e.1) o d.1 = e.2.1) (hq : outD T env ops (placeOf base ops.toList e.1) o d.1 = some (x, v, h1)) (hp : isPan x = e.2.2 ∧ panD x d.2 = some p) :
    stepE T env ops base e d = some (appD o d.1 x v h1, p) := by
  unfold stepE
  rw [ho]
  simp only
  rw [if_pos hf, hq]
  simp only [Option.bind_some]
  rw [if_pos hp.1, hp.2]
  rfl
def IndE (env : Env) (ops : Array Oper) (a b : En) : Prop := ∃ x y, ops[a.1]? = some x ∧ ops[b.1]? = some y ∧ indepB env ops x a.2.1 y b.2.1 = true
theorem step_swap (hE : EnvOk P env) {base : Nat} {a b : En} {d d1 d2 : DSt} (hi : IndE env ops a b) (h1 : stepE T env ops base a d = some d1) (h2 : stepE T env ops base b d1 = some d2) :
    ∃ d3, stepE T env ops base b d = some d3 ∧ stepE T env ops base a d3 = some d2 := by
  obtain ⟨x, y, hx, hy, hap⟩ := hi
  simp only [indepB, Bool.and_eq_true] at hap
  obtain ⟨hap, hf⟩ := hap
  obtain ⟨x', ex, u, h3, p1, i1, i2, i3, i4, rfl⟩ := stepE_some h1
  rw [hx] at i1; cases i1
  obtain ⟨y', ey, v, h4, p2, j1, j2, j3, j4, rfl⟩ := stepE_some h2
  rw [hy] at j1; cases j1
  obtain ⟨a1, a2, a3⟩ := Oper.apart_spec hap
  have c1 : ∀ q ∈ y.looksAt ops, (appD x d.1 ex u h3).get q = d.1.get q := fun q hq => app_get fun e => a1 q e hq
  have fy : footD env ops (placeOf base ops.toList b.1) y d.1 = b.2.1 := by rw [← j2]; exact (footD_congr c1).symm
  obtain ⟨h5, k1, k2⟩ := out_swap hE hap (by rw [i2, fy]; exact hf) i3 j3
  obtain ⟨p3, l1, l2⟩ := panD_swap i4.2 j4.2
  refine ⟨_, stepE_of hy fy k1 ⟨j4.1, l1⟩, ?_⟩
  rw [stepE_of (d := (appD y d.1 ey v h5, p3)) hx (by rw [← i2]; exact footD_congr fun q hq => app_get fun e => a3 q e hq) k2 ⟨i4.1, l2⟩]
  rw [app_two (h3 := h5) a2]
theorem fold_front (hE : EnvOk P env) {base : Nat} {e : En} : ∀ (pre post : List En) (d d' : DSt), (∀ a ∈ pre, IndE env ops a e) → foldE T env ops base (pre ++ e :: post) d = some d' →
    ∃ t, stepE T env ops base e d = some t ∧ foldE T env ops base (pre ++ post) t = some d'
  | [], post, d, d', _, h => by
    simp only [List.nil_append, foldE] at h
    cases hs : stepE T env ops base e d with
    | none => rw [hs] at h; cases h
    | some t => rw [hs] at h; exact ⟨t, rfl, h⟩
  | a :: pre, post, d, d', hi, h => by
    simp only [List.cons_append, foldE] at h
    cases hs : stepE T env ops base a d with
    | none => rw [hs] at h; cases h
    | some t =>
      rw [hs] at h
      obtain ⟨t1, h1, h2⟩ := fold_front hE pre post t d' (fun b hb => hi b (List.mem_cons_of_mem _ hb)) h
      obtain ⟨t2, h3, h4⟩ := step_swap hE (hi a (by simp)) hs h1
      refine ⟨t2, h3, ?_⟩
      simp only [List.cons_append, foldE]
      rw [h4]
      exact h2
theorem panD_keep {x : AExit} {p p1 : Option AVal} {q : AVal} (h : panD x p = some p1) (hp : p = some q) : p1 = some q := by
  subst hp
  cases x <;> simp only [panD] at h <;> first | (cases h; rfl) | cases h | skip
  split at h
  · cases h; rfl
  · cases h
theorem foldE_keep {base : Nat} {q : AVal} : ∀ (l : List En) (d d' : DSt), foldE T env ops base l d = some d' → d.2 = some q → d'.2 = some q
  | [], d, d', h, hp => by cases h; exact hp
  | e :: r, d, d', h, hp => by
    simp only [foldE] at h
    cases hs : stepE T env ops base e d with
    | none => rw [hs] at h; cases h
    | some t =>
      rw [hs] at h
      obtain ⟨o, x, v, h1, p, _, _, _, i4, rfl⟩ := stepE_some hs
      exact foldE_keep r _ d' h (panD_keep i4.2 hp)
end
end Go.Proofs.Ytcbfmkfmdcabmaa

namespace Go.Proofs.Ytcbfmkfmdcabmaa
open Go.RowKit
section
variable {P : Program} {T : Tab} {env : Env} {α : Type} {ops : Array Oper}
abbrev Seen := List (Nat × Oper × Foot)
abbrev Pd := Option (List Nat × AVal)
def panN (i : Nat) (x : AExit) (p : Pd) : Option Pd :=
  match x with
  | .normal => some p
  | .pan v => match p with
    | none => some (some ([i], v))
    | some (ps, u) => if samePan u v = true then some (some (i :: ps, u)) else none
  | _ => none
theorem panN_D {i : Nat} {x : AExit} {p q : Pd} (h : panN i x p = some q) : panD x (p.map (·.2)) = some (q.map (·.2)) := by
  cases x <;> simp only [panN] at h <;> first | (cases h; rfl) | cases h | skip
  split at h
  · cases h; rfl
  · split at h
    · rename_i hs
      cases h
      simp only [Option.map_some, panD]
      rw [if_pos hs]
    · cases h
theorem panN_mem {i : Nat} {x : AExit} {p q : Pd} (h : panN i x p = some q) : (∀ ps u, p = some (ps, u) → ∃ ps' u', q = some (ps', u') ∧ ∀ j ∈ ps, j ∈ ps') ∧ (∀ ps' u', q = some (ps', u') → ∀ j ∈ ps', (isPan x = true ∧ j = i) ∨ ∃ ps u, p = some (ps, u) ∧ j ∈ ps) := by
  cases x <;> simp only [panN] at h <;> first | cases h | skip
  · exact ⟨fun ps u e => ⟨ps, u, e, fun _ h => h⟩, fun ps' u' e j hj => .inr ⟨ps', u', e, hj⟩⟩
  · split at h
    · cases h
      refine ⟨(fun ps u e => by cases e), fun ps' u' e j hj => ?_⟩
      cases e
      exact .inl ⟨rfl, by simpa using hj⟩
    · split at h
      · cases h
        refine ⟨fun ps u e => ?_, fun ps' u' e j hj => ?_⟩
        · cases e
          exact ⟨_, _, rfl, fun j hj => List.mem_cons_of_mem _ hj⟩
        · cases e
          rcases List.mem_cons.1 hj with e | e
          · exact .inl ⟨rfl, e⟩
          · exact .inr ⟨_, _, rfl, e⟩
      · cases h
theorem panN_pan {i : Nat} {x : AExit} {p q : Pd} (h : panN i x p = some q) (hx : isPan x = true) : ∃ ps u, q = some (ps, u) ∧ i ∈ ps := by
  cases x <;> simp only [panN] at h <;> first | cases h | skip
  · cases hx
  · split at h
    · cases h; exact ⟨_, _, rfl, List.mem_cons_self ..⟩
    · split at h
      · cases h; exact ⟨_, _, rfl, List.mem_cons_self ..⟩
      · cases h
theorem draw_cons (hE : EnvOk P env) (base : Nat) (ws : List (List Nat)) (o : Oper) (r : List Oper) (i : Nat) (s : AS) (pan : Pd) (seen : Seen) (k : Option AVal → AS → Option α) :
    evDraw real T env base ops ws (o :: r) i s pan seen k =
      if offD ws i pan = true then evDraw real T env base ops ws r (i + 1) s pan seen k
      else if edgeB o i = true then
        (outD T env ops (placeOf base ops.toList i) o s).bind fun q =>
          if chkD env ops ws i o (footD env ops (placeOf base ops.toList i) o s) seen = true then
            (panN i q.1 pan).bind fun p => evDraw real T env base ops ws r (i + 1) (appD o s q.1 q.2.1 q.2.2) p ((i, o, footD env ops (placeOf base ops.toList i) o s) :: seen) k
          else none
      else none := by
  have hgo : ∀ (f : Foot), (bif chkD env ops ws i o f seen then evD real T env (rpOf ops.toList) (placeOf base ops.toList i) o.op o.type s.ev s.heap (fun x v h =>
        match x with
        | .normal => evDraw real T env base ops ws r (i + 1) (({ s with heap := h } : AS).put o.dst v) pan ((i, o, f) :: seen) k
        | .pan v =>
          match pan with
          | some (ps, u) => if samePan u v = true then evDraw real T env base ops ws r (i + 1) { s with heap := h } (some (i :: ps, u)) ((i, o, f) :: seen) k else none
          | none => evDraw real T env base ops ws r (i + 1) { s with heap := h } (some ([i], v)) ((i, o, f) :: seen) k
        | _ => none) else none) =
      (evT T env (rpOf ops.toList) (placeOf base ops.toList i) o.op o.type s.ev s.heap).bind fun q =>
          if chkD env ops ws i o f seen = true then
            (panN i q.1 pan).bind fun p => evDraw real T env base ops ws r (i + 1) (appD o s q.1 q.2.1 q.2.2) p ((i, o, f) :: seen) k
          else none := fun f => by
    cases chkD env ops ws i o f seen
    · cases evT T env (rpOf ops.toList) (placeOf base ops.toList i) o.op o.type s.ev s.heap <;> rfl
    · simp only [cond_true, if_true]
      rw [evD_nat hE]
      congr 1
      funext q
      obtain ⟨x, v, h⟩ := q
      cases x with
      | normal => rfl
      | pan u =>
        cases pan with
        | none => rfl
        | some q =>
          obtain ⟨ps, u'⟩ := q
          simp only [panN]
          split <;> rfl
      | exit j => rfl
      | ret => rfl
  have hpass : (bif chkD env ops ws i o Foot.no seen then evDraw real T env base ops ws r (i + 1) (s.put o.dst .undef) pan ((i, o, Foot.no) :: seen) k else none) =
      (some (AExit.normal, AVal.undef, s.heap)).bind fun q =>
          if chkD env ops ws i o Foot.no seen = true then
            (panN i q.1 pan).bind fun p => evDraw real T env base ops ws r (i + 1) (appD o s q.1 q.2.1 q.2.2) p ((i, o, Foot.no) :: seen) k
          else none := by
    cases chkD env ops ws i o Foot.no seen <;> rfl
  conv => lhs; unfold evDraw
  cases offD ws i pan with
  | true => rfl
  | false =>
    simp only [cond_false, Bool.false_eq_true, if_false]
    cases hb : edgeB o i with
    | false => rfl
    | true =>
      simp only [Bool.not_true, cond_false, if_true]
      cases hg : o.guard with
      | none =>
        have e1 : outD T env ops (placeOf base ops.toList i) o s = evT T env (rpOf ops.toList) (placeOf base ops.toList i) o.op o.type s.ev s.heap := by simp only [outD, hg]
        have e2 : footD env ops (placeOf base ops.toList i) o s = footOf env.fs (rpOf ops.toList) (placeOf base ops.toList i) s.ev o.op := by simp only [footD, hg]
        rw [e1, e2]
        exact hgo _
      | some jw =>
        obtain ⟨j, want⟩ := jw
        cases hd : (ops[j]?).bind (·.dst) with
        | none =>
          have e1 : outD T env ops (placeOf base ops.toList i) o s = none := by simp only [outD, hg, hd]
          rw [e1]
          simp only [hd]
          rfl
        | some d =>
          have on : ∀ b, s.get d = .bool b → b = want → outD T env ops (placeOf base ops.toList i) o s = evT T env (rpOf ops.toList) (placeOf base ops.toList i) o.op o.type s.ev s.heap ∧ footD env ops (placeOf base ops.toList i) o s = footOf env.fs (rpOf ops.toList) (placeOf base ops.toList i) s.ev o.op := fun b hb e => by
            constructor
            · simp only [outD, hg, hd, hb, e, if_true]
            · simp only [footD, hg, hd, hb, e, if_true]
          have off : ∀ b, s.get d = .bool b → b ≠ want → outD T env ops (placeOf base ops.toList i) o s = some (.normal, .undef, s.heap) ∧ footD env ops (placeOf base ops.toList i) o s = Foot.no := fun b hb e => by
            constructor
            · simp only [outD, hg, hd, hb, if_neg e]
            · simp only [footD, hg, hd, hb, if_neg e]
          simp only [hd]
          cases hs : s.get d with
          | bool b =>
            have e : s.put (some d) (.bool b) = s := put_same hs (by simp)
            simp only [show ∀ (b : Bool) (x y : Option α), real.part b x y = bif b then x else y from fun _ _ _ => rfl]
            cases b <;> cases want <;> simp only [cond_true, cond_false, e]
            · rw [(on _ hs rfl).1, (on _ hs rfl).2]; exact hgo _
            · rw [(off _ hs (by simp)).1, (off _ hs (by simp)).2]; exact hpass
            · rw [(off _ hs (by simp)).1, (off _ hs (by simp)).2]; exact hpass
            · rw [(on _ hs rfl).1, (on _ hs rfl).2]; exact hgo _
          | undef =>
            have e1 : outD T env ops (placeOf base ops.toList i) o s = some (.normal, .undef, s.heap) := by simp only [outD, hg, hd, hs]
            have e2 : footD env ops (placeOf base ops.toList i) o s = Foot.no := by simp only [footD, hg, hd, hs]
            rw [e1, e2]
            exact hpass
          | _ =>
            have e1 : outD T env ops (placeOf base ops.toList i) o s = none := by simp only [outD, hg, hd, hs]
            rw [e1]
            rfl
theorem draw_nat (hE : EnvOk P env) (base : Nat) (ws : List (List Nat)) (k : Option AVal → AS → Option α) : ∀ (l : List Oper) (i : Nat) (s : AS) (pan : Pd) (seen : Seen),
    evDraw real T env base ops ws l i s pan seen k = (evDraw real T env base ops ws l i s pan seen fun p s => some (p, s)).bind fun p => k p.1 p.2
  | [], i, s, pan, seen => by
    cases pan with
    | none => rfl
    | some p =>
      simp only [evDraw]
      have e : ∀ (c : Bool) (x : Option α), (bif c then x else none) = (bif c then some (some p.2, s) else none : Option (Option AVal × AS)).bind fun _ => x := fun c x => by cases c <;> rfl
      rw [e]
      generalize hc : (seen.all (fun e => !offD ws e.1 (some (p.1, p.2))) && (seen.all (fun e => highB base e.2.2) || seqB ws p.1 seen)) = c
      cases c <;> rfl
  | o :: r, i, s, pan, seen => by
    rw [draw_cons hE, draw_cons hE]
    split
    · exact draw_nat hE base ws k r _ _ _ _
    · split
      · cases outD T env ops (placeOf base ops.toList i) o s with
        | none => rfl
        | some q =>
          simp only [Option.bind_some]
          split
          · cases panN i q.1 pan with
            | none => rfl
            | some p => exact draw_nat hE base ws k r _ _ _ _
          · rfl
      · rfl
theorem draw_spec (hE : EnvOk P env) (base : Nat) (ws : List (List Nat)) (k : Option AVal → AS → Option α) : ∀ (l : List Oper) (i : Nat) (s : AS) (pan : Pd) (seen : Seen) (r : α), ops.toList.drop i = l →
    evDraw real T env base ops ws l i s pan seen k = some r →
    ∃ (L : List En) (s' : AS) (pan' : Pd), foldE T env ops base L (s, pan.map (·.2)) = some (s', pan'.map (·.2)) ∧ k (pan'.map (·.2)) s' = some r ∧
      ((∀ ps u, pan = some (ps, u) → ∃ ps' u', pan' = some (ps', u') ∧ ∀ j ∈ ps, j ∈ ps') ∧ ∀ ps' u', pan' = some (ps', u') → ∀ j ∈ ps', (∃ e ∈ L, e.1 = j ∧ e.2.2 = true) ∨ ∃ ps u, pan = some (ps, u) ∧ j ∈ ps) ∧
      ((∀ q, pan' = some q → (∀ e ∈ seen, offD ws e.1 pan' = false) ∧ (((∀ e ∈ seen, highB base e.2.2 = true) ∧ ∀ e ∈ L, highB base e.2.1 = true) ∨
        ∃ p u, q = ([p], u) ∧ (∀ e ∈ seen, e.1 = p ∨ (ws.getD p []).contains e.1 = true) ∧ ∀ e ∈ L, e.1 = p ∨ (ws.getD p []).contains e.1 = true)) ∧
        ∀ e ∈ L, e.2.2 = true → ∃ ps u, pan' = some (ps, u) ∧ e.1 ∈ ps) ∧
      L.map (·.1) = (List.range' i l.length).filter (fun j => !offD ws j pan') ∧
      (∀ e ∈ L, ∃ o, ops[e.1]? = some o ∧ edgeB o e.1 = true ∧ ∀ p ∈ seen, (ws.getD e.1 []).contains p.1 = true ∨ indepB env ops p.2.1 p.2.2 o e.2.1 = true) ∧
      L.Pairwise fun a b => (ws.getD b.1 []).contains a.1 = true ∨ IndE env ops a b
  | [], i, s, none, seen, r, hd, h => ⟨[], s, none, rfl, h, ⟨(fun ps u e => by cases e), fun ps u e => by cases e⟩, ⟨(fun q e => by cases e), fun e he => by cases he⟩, rfl, (fun e he => by cases he), .nil⟩
  | [], i, s, some (p, v), seen, r, hd, h => by
    simp only [evDraw] at h
    cases hc : (seen.all (fun e => !offD ws e.1 (some (p, v))) && (seen.all (fun e => highB base e.2.2) || seqB ws p seen)) with
    | false => rw [hc] at h; cases h
    | true =>
      rw [hc] at h
      rw [Bool.and_eq_true, Bool.or_eq_true] at hc
      obtain ⟨hc1, hc2⟩ := hc
      refine ⟨[], s, some (p, v), rfl, h, ⟨fun ps u e => ⟨ps, u, e, fun _ h => h⟩, fun ps u e j hj => .inr ⟨ps, u, e, hj⟩⟩, ⟨fun q e => ?_, fun e he => by cases he⟩, rfl, (fun e he => by cases he), .nil⟩
      cases e
      refine ⟨fun e he => ?_, ?_⟩
      · have := List.all_eq_true.1 hc1 e he
        simpa using this
      · rcases hc2 with hc2 | hc2
        · exact .inl ⟨fun e he => List.all_eq_true.1 hc2 e he, fun e he => by cases he⟩
        · refine .inr ?_
          unfold seqB at hc2
          split at hc2
          · rename_i q
            refine ⟨q, v, rfl, fun e he => ?_, fun e he => by cases he⟩
            have := List.all_eq_true.1 hc2 e he
            rw [Bool.or_eq_true, beq_iff_eq] at this
            exact this
          · cases hc2
  | o :: l, i, s, pan, seen, r, hd, h => by
    have ho : ops[i]? = some o := by
      have : (ops.toList.drop i)[0]? = some o := by rw [hd]; rfl
      rw [List.getElem?_drop] at this
      simpa using this
    have hd' : ops.toList.drop (i + 1) = l := by
      have : ops.toList.drop (i + 1) = (ops.toList.drop i).drop 1 := by rw [List.drop_drop]
      rw [this, hd]; rfl
    rw [draw_cons hE] at h
    split at h
    · rename_i hoff
      obtain ⟨L, s', pan', h1, h2, h0, h3, h4, h5, h6⟩ := draw_spec hE base ws k l (i + 1) s pan seen r hd' h
      refine ⟨L, s', pan', h1, h2, h0, h3, ?_, h5, h6⟩
      have hp : offD ws i pan' = true := by
        cases pan with
        | none => cases hoff
        | some q =>
          obtain ⟨ps, u⟩ := q
          obtain ⟨ps', u', e, hsub⟩ := h0.1 ps u rfl
          subst e
          simp only [offD, List.any_eq_true] at hoff ⊢
          obtain ⟨j, hj, hw⟩ := hoff
          exact ⟨j, hsub j hj, hw⟩
      rw [List.length_cons, List.range'_succ, List.filter_cons_of_neg (by rw [hp]; simp)]
      exact h4
    · split at h
      · rename_i hoff hedge
        cases hq : outD T env ops (placeOf base ops.toList i) o s with
        | none => rw [hq] at h; cases h
        | some q =>
          obtain ⟨x, v, hh⟩ := q
          rw [hq] at h
          simp only [Option.bind_some] at h
          split at h
          · rename_i hchk
            cases hp : panN i x pan with
            | none => rw [hp] at h; cases h
            | some p =>
              rw [hp] at h
              simp only [Option.bind_some] at h
              obtain ⟨L, s', pan', h1, h2, h0, h3, h4, h5, h6⟩ := draw_spec hE base ws k l (i + 1) _ p _ r hd' h
              obtain ⟨m1, m2⟩ := panN_mem hp
              refine ⟨(i, footD env ops (placeOf base ops.toList i) o s, isPan x) :: L, s', pan', ?_, h2, ⟨fun ps u e => ?_, fun ps' u' e j hj => ?_⟩, ?_, ?_, ?_, ?_⟩
              · simp only [foldE]
                rw [stepE_of (d := (s, pan.map (·.2))) ho rfl hq ⟨rfl, panN_D hp⟩]
                exact h1
              · obtain ⟨ps1, u1, e1, s1⟩ := m1 ps u e
                obtain ⟨ps2, u2, e2, s2⟩ := h0.1 ps1 u1 e1
                exact ⟨ps2, u2, e2, fun j hj => s2 j (s1 j hj)⟩
              · rcases h0.2 ps' u' e j hj with ⟨e1, he1, a, b⟩ | ⟨ps1, u1, e1, hj1⟩
                · exact .inl ⟨e1, List.mem_cons_of_mem _ he1, a, b⟩
                · rcases m2 ps1 u1 e1 j hj1 with ⟨a, b⟩ | ⟨ps, u, e2, hj2⟩
                  · exact .inl ⟨_, List.mem_cons_self .., b.symm, a⟩
                  · exact .inr ⟨ps, u, e2, hj2⟩
              · refine ⟨fun q hq => ?_, fun e he hf => ?_⟩
                · obtain ⟨a, b⟩ := h3.1 q hq
                  refine ⟨fun e he => a e (List.mem_cons_of_mem _ he), ?_⟩
                  rcases b with ⟨b1, b2⟩ | ⟨p0, u0, b0, b1, b2⟩
                  · refine .inl ⟨fun e he => b1 e (List.mem_cons_of_mem _ he), fun e he => ?_⟩
                    rcases List.mem_cons.1 he with he | he
                    · subst he
                      exact b1 _ (List.mem_cons_self ..)
                    · exact b2 e he
                  · refine .inr ⟨p0, u0, b0, fun e he => b1 e (List.mem_cons_of_mem _ he), fun e he => ?_⟩
                    rcases List.mem_cons.1 he with he | he
                    · subst he
                      exact b1 _ (List.mem_cons_self ..)
                    · exact b2 e he
                · rcases List.mem_cons.1 he with he | he
                  · subst he
                    obtain ⟨ps1, u1, e1, s1⟩ := panN_pan hp hf
                    obtain ⟨ps2, u2, e2, s2⟩ := h0.1 ps1 u1 e1
                    exact ⟨ps2, u2, e2, s2 _ s1⟩
                  · exact h3.2 e he hf
              · rw [List.length_cons, List.range'_succ, List.filter_cons_of_pos, List.map_cons, h4]
                cases pan' with
                | none => rfl
                | some q =>
                  have := (h3.1 q rfl).1 _ (List.mem_cons_self ..)
                  rw [this]; rfl
              · intro e he
                rcases List.mem_cons.1 he with he | he
                · subst he
                  refine ⟨o, ho, hedge, fun p hp => ?_⟩
                  have := List.all_eq_true.1 hchk p hp
                  simpa only [Bool.or_eq_true] using this
                · obtain ⟨o', a, b, c⟩ := h5 e he
                  exact ⟨o', a, b, fun p hp => c p (List.mem_cons_of_mem _ hp)⟩
              · refine List.pairwise_cons.2 ⟨fun e he => ?_, h6⟩
                obtain ⟨o', a, b, c⟩ := h5 e he
                rcases c _ (List.mem_cons_self ..) with c | c
                · exact .inl c
                · exact .inr ⟨o, o', ho, a, c⟩
          · cases h
      · cases h
end
end Go.Proofs.Ytcbfmkfmdcabmaa

namespace Go.Proofs.Ytcbfmkfmdcabmaa
open Go.RowKit
inductive Bd (n : Nat) : AVal → Prop where
  | pure (v : AVal) : v.pure0 = true → Bd n v
  | any : Bd n .any
  | undef : Bd n .undef
  | agg (cs : List AVal) : (∀ (j : Nat) c, cs[j]? = some c → Bd n c) → Bd n (.agg cs)
  | rp (cs : List AVal) : (∀ (j : Nat) c, cs[j]? = some c → Bd n c) → Bd n (.rp cs)
  | own (i : Nat) : i < n → Bd n (.own i)
  | op (i off : Nat) : i < n → Bd n (.op i off)
  | oe (i ix off : Nat) : i < n → Bd n (.oe i ix off)
  | fn (f : FuncId) (cs : List AVal) : (∀ (j : Nat) c, cs[j]? = some c → Bd n c) → Bd n (.fn f cs)
  | tup (cs : List AVal) : (∀ (j : Nat) c, cs[j]? = some c → Bd n c) → Bd n (.tup cs)
  | ifc (t : TypeId) (v : AVal) : Bd n v → Bd n (.ifc t v)
  | yld (i : Nat) : i < n → Bd n (.yld i)
theorem Rep.bd {h g w} {v : AVal} {x : Value} (r : Rep h g w v x) : Bd h.length v := by
  induction r with
  | any => exact .any
  | undef => exact .undef
  | int | bool | str | nils | ro0 | ro1 | nilif | nilfn | nilmp | nilpt => exact .pure _ rfl
  | agg cs arr hl _ ih => exact .agg cs fun j c hc => ih j c _ hc (Array.getElem?_eq_getElem (by have := (List.getElem?_eq_some_iff.1 hc).1; omega))
  | rp cs b o us hm _ _ ih => exact .rp cs fun j c hc => ih j c hc
  | own i v hi => exact .own i hi.lt
  | op i off v hi => exact .op i off hi.lt
  | oe i ix off v hi => exact .oe i ix off hi.lt
  | fn f caps arr hl _ ih => exact .fn f caps fun j c hc => ih j c _ hc (Array.getElem?_eq_getElem (by have := (List.getElem?_eq_some_iff.1 hc).1; omega))
  | tup cs arr hl _ ih => exact .tup cs fun j c hc => ih j c _ hc (Array.getElem?_eq_getElem (by have := (List.getElem?_eq_some_iff.1 hc).1; omega))
  | ifc t c x _ ih => exact .ifc t c ih
  | yld i v hi => exact .yld i hi.lt
theorem Bd.more {n m : Nat} {v : AVal} (b : Bd n v) (h : n ≤ m) : Bd m v := by
  induction b with
  | pure v hp => exact .pure v hp
  | any => exact .any
  | undef => exact .undef
  | agg cs _ ih => exact .agg cs ih
  | rp cs _ ih => exact .rp cs ih
  | own i hi => exact .own i (Nat.lt_of_lt_of_le hi h)
  | op i off hi => exact .op i off (Nat.lt_of_lt_of_le hi h)
  | oe i ix off hi => exact .oe i ix off (Nat.lt_of_lt_of_le hi h)
  | fn f cs _ ih => exact .fn f cs ih
  | tup cs _ ih => exact .tup cs ih
  | ifc t v _ ih => exact .ifc t v ih
  | yld i hi => exact .yld i (Nat.lt_of_lt_of_le hi h)
structure Moves (n : Nat) (h : List ABlk) (g : Gh) (h2 : List ABlk) (g2 : Gh) : Prop where
  len : n ≤ h2.length
  here : ∀ i, i < n → Here h i → Here h2 i
  m : ∀ b, g.M b → g2.M b
  box : ∀ i wr cs, i < n → h2[i]? = some (.box wr cs) → ∃ wr' cs', h[i]? = some (.box wr' cs') ∧ cs'.length = cs.length ∧ g2.ρ i = g.ρ i
  row : ∀ i wr t e xs, i < n → h2[i]? = some (.row wr t e xs) → ∃ wr' xs', h[i]? = some (.row wr' t e xs') ∧ xs'.length = xs.length ∧ g2.ρ i = g.ρ i
  lp : ∀ i st pend ts ps aw bo, i < n → h2[i]? = some (.lp st pend ts ps aw bo) → ∃ st' pend', h[i]? = some (.lp st' pend' ts ps aw bo) ∧ g2.ρ i = g.ρ i
theorem Rep.move {n : Nat} {h g w h2 g2} {v : AVal} {x : Value} (r : Rep h g w v x) (hb : Bd n v) (m : Moves n h g h2 g2) : Rep h2 g2 w v x := by
  induction r with
  | any v => exact .any v
  | undef => exact .undef
  | int k n => exact .int k n
  | bool b => exact .bool b
  | str s => exact .str s
  | nils => exact .nils
  | nilif => exact .nilif
  | nilfn => exact .nilfn
  | nilmp => exact .nilmp
  | nilpt => exact .nilpt
  | agg cs arr hl _ ih =>
    refine .agg cs arr hl fun j c x hc hx => ih j c x hc hx ?_
    cases hb with
    | pure _ h => simp [AVal.pure0] at h
    | agg _ h => exact h j c hc
  | ro0 e p c hc hc' => exact .ro0 e p c hc hc'
  | ro1 e xs b o c us h0 h1 h2 hm hc _ ih => exact .ro1 e xs b o c us h0 h1 h2 (m.m b hm) hc fun n x j cc a a' => ih n x j cc a a' (.pure _ (Sh.cells_pure e x cc (List.mem_of_getElem? a')))
  | rp cs b o us hm hc _ ih =>
    refine .rp cs b o us (m.m b hm) hc fun j c hj => ih j c hj ?_
    cases hb with
    | pure _ h => simp [AVal.pure0] at h
    | rp _ h => exact h j c hj
  | own i v hi h1 hv =>
    have hin : i < n := by
      cases hb with
      | pure _ h => simp [AVal.pure0] at h
      | own _ h => exact h
    refine .own i v (m.here i hin hi) h1 fun wr t e xs hx => ?_
    obtain ⟨wr', xs', a, _, c⟩ := m.row i wr t e xs hin hx
    rw [c]; exact hv wr' t e xs' a
  | op i off v hi h1 hv =>
    have hin : i < n := by
      cases hb with
      | pure _ h => simp [AVal.pure0] at h
      | op _ _ h => exact h
    refine .op i off v (m.here i hin hi) h1 fun wr cs hx => ?_
    obtain ⟨wr', cs', a, _, c⟩ := m.box i wr cs hin hx
    rw [c]; exact hv wr' cs' a
  | oe i ix off v hi h1 hv =>
    have hin : i < n := by
      cases hb with
      | pure _ h => simp [AVal.pure0] at h
      | oe _ _ _ h => exact h
    refine .oe i ix off v (m.here i hin hi) h1 fun wr t e xs hx h0 => ?_
    obtain ⟨wr', xs', a, b, c⟩ := m.row i wr t e xs hin hx
    rw [c, ← b]; exact hv wr' t e xs' a h0
  | fn f caps arr hl _ ih =>
    refine .fn f caps arr hl fun j c x hc hx => ih j c x hc hx ?_
    cases hb with
    | pure _ h =>
      cases caps with
      | nil => simp at hc
      | cons => simp [AVal.pure0] at h
    | fn _ _ h => exact h j c hc
  | tup cs arr hl _ ih =>
    refine .tup cs arr hl fun j c x hc hx => ih j c x hc hx ?_
    cases hb with
    | pure _ h => simp [AVal.pure0] at h
    | tup _ h => exact h j c hc
  | ifc t c x _ ih =>
    refine .ifc t c x (ih ?_)
    cases hb with
    | pure _ h => simp [AVal.pure0] at h
    | ifc _ _ h => exact h
  | yld i v hi h1 hv =>
    have hin : i < n := by
      cases hb with
      | pure _ h => simp [AVal.pure0] at h
      | yld _ h => exact h
    refine .yld i v (m.here i hin hi) h1 fun st pend ts ps aw bo hx => ?_
    obtain ⟨st', p', a, c⟩ := m.lp i st pend ts ps aw bo hin hx
    rw [c]; exact hv st' p' ts ps aw bo a
theorem putAll_get : ∀ (ps : List (Nat × AVal)) (l : List AVal) (t : Nat) (c : AVal), (putAll l ps)[t]? = some c → (∃ (m : Nat) (v : AVal), ps[m]? = some (t, v) ∧ c = v) ∨ ((∀ v, (t, v) ∉ ps) ∧ l[t]? = some c)
  | [], l, t, c, h => .inr ⟨fun v => by simp, h⟩
  | (u, v) :: ps, l, t, c, h => by
    simp only [putAll] at h
    rcases putAll_get ps (l.set u v) t c h with ⟨m, v', h1, h2⟩ | ⟨h1, h2⟩
    · exact .inl ⟨m + 1, v', by simpa using h1, h2⟩
    · rw [List.getElem?_set] at h2
      split at h2
      · rename_i e
        subst e
        split at h2
        · cases h2; exact .inl ⟨0, v, rfl, rfl⟩
        · cases h2
      · rename_i hne
        refine .inr ⟨fun v' hm => ?_, h2⟩
        rcases List.mem_cons.1 hm with e | e
        · cases e; exact hne rfl
        · exact h1 v' e
theorem putAll_length : ∀ (ps : List (Nat × AVal)) (l : List AVal), (putAll l ps).length = l.length
  | [], l => rfl
  | (u, v) :: ps, l => by simp only [putAll]; rw [putAll_length ps]; simp
theorem mapAt_get (f : Nat → ABlk → ABlk) : ∀ (l : List ABlk) (n i : Nat), (mapAt f n l)[i]? = (l[i]?).map (f (n + i))
  | [], n, i => by simp [mapAt]
  | b :: l, n, i => by
    cases i with
    | zero => simp [mapAt]
    | succ i =>
      simp only [mapAt, List.getElem?_cons_succ]
      rw [mapAt_get f l]
      congr 1
      rw [Nat.add_assoc, Nat.add_comm 1 i]
theorem mapAt_length (f : Nat → ABlk → ABlk) : ∀ (l : List ABlk) (n : Nat), (mapAt f n l).length = l.length
  | [], _ => rfl
  | b :: l, n => by simp [mapAt, mapAt_length f l]
def srcOf (ρ : Nat → Value) : List Kd → List AVal → List Value
  | .own _ _ :: ks, .own i :: vs => ρ i :: srcOf ρ ks vs
  | .own _ _ :: ks, _ :: vs => .slice none 0 0 :: srcOf ρ ks vs
  | .v _ :: ks, _ :: vs => srcOf ρ ks vs
  | _, _ => []
def CarK (h : List ABlk) (n : Nat) (ks : List Kd) (y : Kds.ty ks) (vs : List AVal) (ρ : Nat → Value) (c c' : AVal) : Prop :=
  (∃ s u, ∃ x : s.ty, peek1 h c = some u ∧ okAgg u s = true ∧ Sims u.cells (s.cells x) ∧ c' = s.val x ∧ ∀ i ∈ c.named1, i ∈ fzIn ks vs) ∨
  (∃ q t e, ∃ xs : List e.ty, c' = .own (n + q) ∧ (rowsOf ks y)[q]? = some (.row true t e xs) ∧
    ((∃ i, c = .own i ∧ h[i]? = some (.row true t e xs) ∧ (srcOf ρ ks vs)[q]? = some (ρ i)) ∨ (c = .nils ∧ xs = [] ∧ 0 < e.size ∧ (srcOf ρ ks vs)[q]? = some (.slice none 0 0))))
theorem exKs_spec (h : List ABlk) (ρ : Nat → Value) : ∀ (ks : List Kd) (vs : List AVal) (y : Kds.ty ks) (n : Nat), exKs h ks vs = some y →
    vs.length = (valsOf ks y n).length ∧ (rowsOf ks y).length = (srcOf ρ ks vs).length ∧ (∀ (m : Nat) c c', vs[m]? = some c → (valsOf ks y n)[m]? = some c' → CarK h n ks y vs ρ c c')
  | [], [], y, n, _ => ⟨rfl, rfl, fun m c c' hc => by simp at hc⟩
  | [], _ :: _, y, n, hx => by simp [exKs] at hx
  | k :: ks, [], y, n, hx => by cases k <;> simp [exKs] at hx
  | k :: ks, v :: vs, y, n, hx => by
    simp only [exKs] at hx
    split at hx
    · cases hx
    · rename_i x hk
      split at hx
      · cases hx
      · rename_i y' hy'
        cases hx
        cases k with
        | v s =>
          obtain ⟨i1, i2, i3⟩ := exKs_spec h ρ ks vs y' n hy'
          refine ⟨by simp [valsOf, i1], by simp only [rowsOf, srcOf]; exact i2, fun m c c' hc hc' => ?_⟩
          cases m with
          | zero =>
            simp only [valsOf, List.getElem?_cons_zero, Option.some.injEq] at hc hc'
            subst hc; subst hc'
            change exV h s v = some x at hk
            unfold exV at hk
            split at hk
            · rename_i u hu
              cases hok : okAgg u s
              · rw [hok] at hk; cases hk
              · rw [hok] at hk
                exact .inl ⟨s, u, x, hu, hok, Sh.all_spec hk, rfl, fun i hi => by simp only [fzIn, List.mem_append]; exact .inl hi⟩
            · cases hk
          | succ m =>
            rcases i3 m c c' (by simpa using hc) (by simpa [valsOf] using hc') with ⟨s', u, x', a1, a2, a3, a4, a5⟩ | ⟨q, t, e, xs, a1, a2, a3⟩
            · exact .inl ⟨s', u, x', a1, a2, a3, a4, fun i hi => by simp only [fzIn, List.mem_append]; exact .inr (a5 i hi)⟩
            · exact .inr ⟨q, t, e, xs, a1, by simpa [rowsOf] using a2, by simpa [srcOf] using a3⟩
        | own t e =>
          obtain ⟨i1, i2, i3⟩ := exKs_spec h ρ ks vs y' (n + 1) hy'
          have hsrc : ∃ z, srcOf ρ (.own t e :: ks) (v :: vs) = z :: srcOf ρ ks vs ∧ ((∃ i, v = .own i ∧ z = ρ i) ∨ ((∀ i, v ≠ .own i) ∧ z = .slice none 0 0)) := by
            cases v <;> first
              | exact ⟨_, rfl, .inl ⟨_, rfl, rfl⟩⟩
              | exact ⟨_, rfl, .inr ⟨fun i e => (by cases e), rfl⟩⟩
          obtain ⟨z, hz1, hz2⟩ := hsrc
          refine ⟨by simp [valsOf, i1], by simp only [rowsOf]; rw [hz1]; simp [i2], fun m c c' hc hc' => ?_⟩
          cases m with
          | zero =>
            simp only [valsOf, List.getElem?_cons_zero, Option.some.injEq] at hc hc'
            subst hc; subst hc'
            refine .inr ⟨0, t, e, x, rfl, by simp [rowsOf], ?_⟩
            rw [hz1]
            change exO h t e v = some x at hk
            unfold exO at hk
            split at hk
            · rename_i i
              cases hg : h.getD i .dead with
              | dead => rw [hg] at hk; cases hk
              | box wr cs => rw [hg] at hk; cases hk
              | lp => rw [hg] at hk; cases hk
              | free => rw [hg] at hk; cases hk
              | row wr t2 d xs =>
                rw [hg] at hk
                cases wr with
                | false => cases hk
                | true =>
                  simp only at hk
                  split at hk
                  · rename_i hd
                    subst hd
                    split at hk
                    · rename_i ht
                      subst ht
                      cases hk
                      refine .inl ⟨i, rfl, getD_some (by simp) hg, ?_⟩
                      rcases hz2 with ⟨i', h1, h2⟩ | ⟨h1, _⟩
                      · cases h1; simp [h2]
                      · exact absurd rfl (h1 i)
                    · cases hk
                  · cases hk
            · split at hk
              · rename_i h0
                cases hk
                refine .inr ⟨rfl, rfl, h0, ?_⟩
                rcases hz2 with ⟨i', h1, h2⟩ | ⟨_, h2⟩
                · cases h1
                · simp [h2]
              · cases hk
            · cases hk
          | succ m =>
            rcases i3 m c c' (by simpa using hc) (by simpa [valsOf] using hc') with ⟨s', u, x', a1, a2, a3, a4, a5⟩ | ⟨q, t', e', xs, a1, a2, a3⟩
            · exact .inl ⟨s', u, x', a1, a2, a3, a4, fun i hi => by simp only [fzIn]; exact a5 i hi⟩
            · refine .inr ⟨q + 1, t', e', xs, by rw [a1]; congr 1; omega, by simpa [rowsOf] using a2, ?_⟩
              rw [hz1]
              simpa using a3
end Go.Proofs.Ytcbfmkfmdcabmaa
