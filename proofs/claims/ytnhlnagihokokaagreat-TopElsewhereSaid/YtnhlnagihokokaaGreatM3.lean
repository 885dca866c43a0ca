/- Parts of the proof, in build order. -/
import Derived.Test.YtnhlnagihokokaaGreatM2
namespace Go.Proofs.YtnhlnagihokokaaGreat
open Go.RowKit
def CPost (M : Nat → Prop) (w : World) (out : AOut) (e : Ending) (w' : World) : Prop :=
  ∃ M' : Nat → Prop, (∀ b, M b → M' b) ∧ (∀ b, M' b → M b ∨ w.heap.size ≤ b) ∧ (∀ b, M' b → b < w'.heap.size) ∧ Below w.heap.size w w' ∧
    match out with
    | .ret v => ∃ x, e = .returned x ∧ Rep [] ⟨fun _ => Go.undef, M'⟩ w' v x
    | .pan v => ∃ x, e = .panicked [{ v := x, recovered := false }] ∧ Rep [] ⟨fun _ => Go.undef, M'⟩ w' v x
structure FspOk (P : Program) (f : FuncId) (S : Fsp) : Prop where
  enter : ∀ args w, (callFunc f args).run P w = .ok (.enter f args) w
  nat : ∀ (α : Type) args (k : AOut → Option α), S α args k = (S AOut args some).bind k
  calls : ∀ args out, S AOut args some = some out → ∀ (M : Nat → Prop) w (cargs : Array Value), (∀ b, M b → b < w.heap.size) → args.length = cargs.size →
    (∀ (j : Nat) c x, args[j]? = some c → cargs[j]? = some x → Rep [] ⟨fun _ => Go.undef, M⟩ w c x) → Calls P f cargs w (CPost M w out)
def CvPost (K : Nat → Prop) (h : List ABlk) (g : Gh) (w : World) (h1 : List ABlk) (x : AExit) (u : AVal) (e : Ending) (w' : World) : Prop :=
  ∃ g', St K h1 g' w' ∧ Le K h g w h1 g' w' ∧
    match x with
    | .normal => ∃ z, e = .returned z ∧ Rep h1 g' w' u z
    | .pan v => ∃ z, e = .panicked [{ v := z, recovered := false }] ∧ Rep h1 g' w' v z
    | _ => False
def CallV (P : Program) (fv : Value) (cargs : Array Value) (w : World) (R : Ending → World → Prop) : Prop :=
  (∃ f caps, fv = .func (.func f) #[] caps ∧ (∀ w, (callFunc f (cargs ++ caps)).run P w = .ok (.enter f (cargs ++ caps)) w) ∧ Calls P f (cargs ++ caps) w R) ∨
  (∃ l f tmps aw bo, fv = .func (.yield l) #[] #[] ∧ (Instr.yield l cargs).run P w = .ok (.round l f tmps aw bo) w ∧ RoundIn (FW none) 0 P l f tmps aw bo w R) ∨
  (∃ f caps v, fv = .func (.func f) #[] caps ∧ (∃ x, cargs[0]? = some x ∧ ∀ a b c, x ≠ .func a b c) ∧ (callFunc f (cargs ++ caps)).run P w = .ok (.value v) w ∧ R (.returned v) w)
def tripE (x : AExit) (v : AVal) (h : List ABlk) : Option (AExit × AVal × List ABlk) := some (x, v, h)
structure CvOk (P : Program) (cv : Cv) : Prop where
  nat : ∀ (α : Type) v args h (k : AExit → AVal → List ABlk → Option α), cv α v args h k = (cv _ v args h tripE).bind fun p => k p.1 p.2.1 p.2.2
  ok : ∀ v args h x u h1, cv _ v args h tripE = some (x, u, h1) → ∀ (K : Nat → Prop) g w (fv : Value) (cargs : Array Value), St K h g w → Rep h g w v fv → args.length = cargs.size →
    (∀ (j : Nat) c z, args[j]? = some c → cargs[j]? = some z → Rep h g w c z) → CallV P fv cargs w (CvPost K h g w h1 x u)
structure EnvOk (P : Program) (env : Env) : Prop where
  fs : ∀ f S, env.fs f = some S → FspOk P f S
  cv : CvOk P env.cv
theorem rep_nil {g w} {v : AVal} {x : Value} (r : Rep [] g w v x) {h : List ABlk} {g' : Gh} (hM : ∀ b, g.M b → g'.M b) : Rep h g' w v x := by
  induction r with
  | any v => exact .any v
  | undef => exact .undef
  | int k n => exact .int k n
  | bool b => exact .bool b
  | str s => exact .str s
  | agg cs arr hl _ ih => exact .agg cs arr hl ih
  | nils => exact .nils
  | ro0 e p c hc hc' => exact .ro0 e p c hc hc'
  | ro1 e xs b o c us h0 h1 h2 hm hc _ ih => exact .ro1 e xs b o c us h0 h1 h2 (hM b hm) hc ih
  | rp cs b o us hm hc _ ih => exact .rp cs b o us (hM b hm) hc ih
  | own i v hi => exact absurd hi.lt (by simp)
  | op i off v hi => exact absurd hi.lt (by simp)
  | oe i ix off v hi => exact absurd hi.lt (by simp)
  | fn f caps arr hl _ ih => exact .fn f caps arr hl ih
  | tup cs arr hl _ ih => exact .tup cs arr hl ih
  | ifc t c x _ ih => exact .ifc t c x ih
  | nilif => exact .nilif
  | nilfn => exact .nilfn
  | yld i v hi => exact absurd hi.lt (by simp)
theorem rep_flat0 {h g w} {v : AVal} {x : Value} (r : Rep h g w v x) (hf : v.flat0 = true) {h' g' w'} : Rep h' g' w' v x := by
  cases r <;> first | (simp [AVal.flat0] at hf; done) | constructor
theorem rep_flat1 {h g w} {v : AVal} {x : Value} (r : Rep h g w v x) (hf : v.flat1 = true) {h' g' w'} : Rep h' g' w' v x := by
  unfold AVal.flat1 at hf
  split at hf
  · rename_i cs
    cases r with
    | agg _ arr hl hr => exact .agg _ _ hl fun j c x hc hx => rep_flat0 (hr j c x hc hx) (List.all_eq_true.1 hf c (List.mem_of_getElem? hc))
  · exact rep_flat0 r hf
theorem rep_flat2 {h g w} {v : AVal} {x : Value} (r : Rep h g w v x) (hf : v.flat2 = true) {h' g' w'} : Rep h' g' w' v x := by
  unfold AVal.flat2 at hf
  split at hf
  · rename_i cs
    cases r with
    | tup _ arr hl hr => exact .tup _ _ hl fun j c x hc hx => rep_flat1 (hr j c x hc hx) (List.all_eq_true.1 hf c (List.mem_of_getElem? hc))
  · rename_i t v
    cases r with
    | ifc _ _ y hr => exact .ifc t v y (rep_flat1 hr hf)
  · exact rep_flat1 r hf
theorem le_below {K h g w w'} (s : St K h g w) (hb : Below w.heap.size w w') (M' : Nat → Prop) (h1 : ∀ b, g.M b → M' b) (h2 : ∀ b, M' b → g.M b ∨ w.heap.size ≤ b) : Le K h g w h ⟨g.ρ, M'⟩ w' where
  len := Nat.le_refl _
  here := fun _ h => h
  m := h1
  new := fun b hb' => (h2 b hb').imp id fun h hk => Nat.lt_irrefl _ (Nat.lt_of_lt_of_le (s.klow b hk) h)
  mw := fun b hb' => hb.block b (s.low b hb')
  k := fun b hb' => hb.block b (s.klow b hb')
  box := fun i wr cs' _ h' => ⟨wr, cs', h', rfl, rfl⟩
  row := fun i wr t e xs' _ h' => ⟨wr, xs', h', rfl, rfl⟩
  lp := fun _ st pend _ _ _ _ _ h => ⟨st, pend, h, rfl⟩
  lockb := fun _ _ h => h
  lockr := fun _ _ _ _ h => h
  os := hb.os
  tape := hb.tape
  output := hb.output
  size := hb.size
theorem St.below {K h g w w'} (s : St K h g w) (hb : Below w.heap.size w w') (M' : Nat → Prop) (h1 : ∀ b, g.M b → M' b) (h2 : ∀ b, M' b → g.M b ∨ w.heap.size ≤ b) (h3 : ∀ b, M' b → b < w'.heap.size) : St K h ⟨g.ρ, M'⟩ w' where
  blk := fun i b hb' => (s.blk i b hb').mono (le_below s hb M' h1 h2) rfl fun n hd hn => hb.block n (s.sep i n ⟨b, hb', hd⟩ hn).2.2
  inj := s.inj
  sep := fun i n ai hn => by
    obtain ⟨a, b, c⟩ := s.sep i n ai hn
    exact ⟨a, fun hm => (h2 n hm).elim b fun h => Nat.lt_irrefl _ (Nat.lt_of_lt_of_le c h), Nat.lt_of_lt_of_le c hb.size⟩
  low := h3
  klow := fun b hk => Nat.lt_of_lt_of_le (s.klow b hk) hb.size
theorem peek0_alive {h : List ABlk} {v u : AVal} (hp : peek0 h v = some u) : ∀ i ∈ v.named0, alive h i := by
  intro i hi
  unfold AVal.named0 at hi
  split at hi
  · rename_i j
    simp only [List.mem_singleton] at hi
    subst hi
    unfold peek0 at hp
    simp only at hp
    split at hp
    · rename_i wr t e xs hh
      exact ⟨_, getD_some (by simp) hh, by simp⟩
    · cases hp
  · simp at hi
theorem peek1_alive {h : List ABlk} {v u : AVal} (hp : peek1 h v = some u) : ∀ i ∈ v.named1, alive h i := by
  intro i hi
  have inner : ∀ (cs us : List AVal), peekL (peek0 h) cs = some us → i ∈ cs.flatMap AVal.named0 → alive h i := by
    intro cs us hp hi
    obtain ⟨c, hc, hi⟩ := List.mem_flatMap.1 hi
    obtain ⟨j, hj, rfl⟩ := List.mem_iff_getElem.1 hc
    obtain ⟨h1, h2⟩ := peekL_get hp
    have hju : j < us.length := by omega
    exact peek0_alive (h2 j _ _ (List.getElem?_eq_getElem hj) (List.getElem?_eq_getElem hju)) i hi
  have innerC : ∀ (cs us : List AVal), peekL (peekC h) cs = some us → i ∈ cs.flatMap AVal.named0 → alive h i := by
    intro cs us hp hi
    obtain ⟨c, hc, hi⟩ := List.mem_flatMap.1 hi
    obtain ⟨j, hj, rfl⟩ := List.mem_iff_getElem.1 hc
    obtain ⟨h1, h2⟩ := peekL_get hp
    have hju : j < us.length := by omega
    have hq := h2 j _ _ (List.getElem?_eq_getElem hj) (List.getElem?_eq_getElem hju)
    unfold peekC at hq
    split at hq
    · rename_i cs' he
      rw [he] at hi; simp [AVal.named0] at hi
    · exact peek0_alive hq i hi
  unfold peek1 at hp
  split at hp
  · rename_i cs
    split at hp
    · rename_i us hus
      exact inner cs us hus hi
    · cases hp
  · rename_i f cs
    split at hp
    · rename_i us hus
      exact innerC cs us hus hi
    · cases hp
  · rename_i v h1 h2
    refine peek0_alive hp i ?_
    unfold AVal.named1 at hi
    split at hi
    · exact absurd rfl (h1 _)
    · exact absurd rfl (h2 _ _)
    · exact hi
theorem peekP_alive {h : List ABlk} {v u : AVal} (hp : peekP h v = some u) : ∀ i ∈ v.namedP, alive h i := by
  intro i hi
  unfold peekP at hp
  split at hp
  · rename_i j off
    simp only [AVal.namedP, List.mem_singleton] at hi
    subst hi
    split at hp
    · rename_i wr cs hh
      exact ⟨_, getD_some (by simp) hh, by simp⟩
    · cases hp
  · rename_i v h1
    refine peek1_alive hp i ?_
    unfold AVal.namedP at hi
    split at hi
    · exact absurd rfl (h1 _ _)
    · exact hi
structure OpCont {α : Type} (K : Nat → Prop) (P : Program) (o : Oper) (a : Act) (st : AS) (g : Gh) (w : World) (k : AExit → AVal → AS → Option α) (r : α) (next : Act → World → Prop) (Q : Exit → Act → World → Prop) : Prop where
  on : ∀ v st' g' w' x, k .normal v st' = some r → st'.tmps = st.tmps → St K st'.heap g' w' → Le K st.heap g w st'.heap g' w' → Rep st'.heap g' w' v x → next (a.put o.dst x) w'
  pan : ∀ v u st' g' w' x, k (.pan v) u st' = some r → st'.tmps = st.tmps → St K st'.heap g' w' → Le K st.heap g w st'.heap g' w' → Rep st'.heap g' w' v x → Q (.panic [{ v := x, recovered := false }]) a w'
theorem evPure_nat {P : Program} {f : FuncId} {S : Fsp} (hok : FspOk P f S) {α : Type} (dr fz : Bool) (args : List AVal) (h : List ABlk) (k : AExit → AVal → List ABlk → Option α) :
    evPure S dr fz args h k = (evPure S dr fz args h tripE).bind fun p => k p.1 p.2.1 p.2.2 := by
  unfold evPure
  split
  · rfl
  · rename_i aw _
    rw [hok.nat α, hok.nat (AExit × AVal × List ABlk)]
    cases S AOut aw some with
    | none => rfl
    | some out =>
      simp only [Option.bind_some]
      cases out with
      | ret v =>
        simp only
        split
        · rfl
        · cases (dr && !(args.flatMap AVal.namedP).isEmpty)
          · simp only [cond_false]
            split <;> rfl
          · rfl
      | pan v =>
        simp only
        cases (!v.flat2) <;> rfl
theorem pure_calls {P : Program} {K : Nat → Prop} {g : Gh} {w : World} {h : List ABlk} {fid : FuncId} {S : Fsp} (hok : FspOk P fid S) (s : St K h g w) (dr fz : Bool) (L : List AVal) (cargs : Array Value) (hlen : L.length = cargs.size)
    (hargs : ∀ (j : Nat) c x, L[j]? = some c → cargs[j]? = some x → Rep h g w c x) {x : AExit} {u : AVal} {h1 : List ABlk} (hk : evPure S dr fz L h tripE = some (x, u, h1)) : Calls P fid cargs w (CvPost K h g w h1 x u) := by
  unfold evPure at hk
  split at hk
  · cases hk
  · rename_i aw has
    rw [hok.nat] at hk
    cases hout : S AOut aw some with
    | none => rw [hout] at hk; cases hk
    | some out =>
      rw [hout] at hk
      simp only [Option.bind_some] at hk
      obtain ⟨hpl, hpg⟩ := peekL_get has
      have halive : ∀ i ∈ L.flatMap AVal.namedP, alive h i := fun i hi => by
        obtain ⟨v, hv, hi⟩ := List.mem_flatMap.1 hi
        obtain ⟨j, hj, rfl⟩ := List.mem_iff_getElem.1 hv
        exact peekP_alive (hpg j _ _ (List.getElem?_eq_getElem hj) (List.getElem?_eq_getElem (by omega))) i hi
      have hM1 : ∀ b, (g.plus (L.flatMap AVal.namedP)).M b → b < w.heap.size := fun b hb => by
        rcases hb with hb | ⟨i, hi, hb⟩
        · exact s.low b hb
        · exact (s.sep i b (halive i hi) hb).2.2
      have hrep : ∀ (j : Nat) c x, aw[j]? = some c → cargs[j]? = some x → Rep [] ⟨fun _ => Go.undef, (g.plus (L.flatMap AVal.namedP)).M⟩ w c x := fun j c x hc hx => by
        have hj : j < L.length := by have := (List.getElem?_eq_some_iff.1 hc).1; omega
        have hcs := List.getElem?_eq_getElem hj
        exact peekP_rep (g' := ⟨fun _ => Go.undef, (g.plus (L.flatMap AVal.namedP)).M⟩) s (hargs j _ x hcs hx) (hpg j _ c hcs hc) (fun b hb => Or.inl hb) fun i hi b hb => Or.inr ⟨i, List.mem_flatMap.2 ⟨_, List.getElem_mem hj, hi⟩, hb⟩
      have hcall := hok.calls aw out hout _ w cargs hM1 (by omega) hrep
      refine hcall.mono fun e w' hp => ?_
      obtain ⟨M', m1, m2, m3, hb, hout'⟩ := hp
      cases out with
      | ret v =>
        obtain ⟨z, rfl, hx⟩ := hout'
        simp only at hk
        split at hk
        · rename_i hfl
          cases hk
          have s' := s.below hb g.M (fun _ h => h) (fun b h => .inl h) (fun b h => Nat.lt_of_lt_of_le (s.low b h) hb.size)
          exact ⟨_, s', le_below s hb g.M (fun _ h => h) fun b h => .inl h, z, rfl, rep_flat2 hx hfl⟩
        · cases hd : (dr && !(L.flatMap AVal.namedP).isEmpty)
          · rw [hd] at hk
            simp only [cond_false] at hk
            split at hk
            · rename_i h' hkill
              cases hk
              obtain ⟨l1, s1⟩ := kill_z s hkill
              have hsame : ∀ b, (g.plus (dedup (L.flatMap AVal.namedP))).M b ↔ (g.plus (L.flatMap AVal.namedP)).M b := fun b => by
                simp only [Gh.plus, mem_dedup]
              have s2 := s1.below hb M' (fun b h => m1 b ((hsame b).1 h)) (fun b h => (m2 b h).imp (hsame b).2 id) m3
              have l2 := le_below s1 hb M' (fun b h => m1 b ((hsame b).1 h)) (fun b h => (m2 b h).imp (hsame b).2 id)
              exact ⟨_, s2, l1.trans l2, z, rfl, rep_nil hx fun b h => h⟩
            · cases hk
          · rw [hd] at hk; cases hk
      | pan v =>
        obtain ⟨z, rfl, hx⟩ := hout'
        simp only at hk
        cases hd : (!v.flat2)
        · rw [hd] at hk
          simp only [cond_false] at hk
          cases hk
          have hfl : v.flat2 = true := by
            simpa using hd
          have s' := s.below hb g.M (fun _ h => h) (fun b h => .inl h) (fun b h => Nat.lt_of_lt_of_le (s.low b h) hb.size)
          exact ⟨_, s', le_below s hb g.M (fun _ h => h) fun b h => .inl h, z, rfl, rep_flat2 hx hfl⟩
        · rw [hd] at hk; cases hk
section
variable {ro : Option Nat} {P : Program} {T : Tab} {env : Env} {o : Oper} {a : Act} {w : World} {α : Type} {r : α} {K : Nat → Prop} {st : AS} {g : Gh} {k : AExit → AVal → AS → Option α} {next : Act → World → Prop} {Q : Exit → Act → World → Prop}
theorem Good.wp (h : Good K P o a st g w (fun v s => k .normal v s) r) (c : OpCont K P o a st g w k r next Q) : o.wpIn (FW ro) 0 P a w next Q := by
  obtain ⟨v, st', g', w', z, h1, h2, h3, h4, h5, h6⟩ := h
  exact wp_value h6 (c.on v st' g' w' z h1 h2 h3 h4 h5)
theorem same_wp (s : St K st.heap g w) (c : OpCont K P o a st g w k r next Q) {v : AVal} {z : Value} (hk : k .normal v st = some r) (hr : Rep st.heap g w v z) (hrun : (execOp a.eval o).run P w = .ok (.value z) w) : o.wpIn (FW ro) 0 P a w next Q :=
  wp_value hrun (c.on v st g w z hk rfl s .refl hr)
theorem OpCont.call (c : OpCont K P o a st g w k r next Q) {x : AExit} {u : AVal} {h1 : List ABlk} (hk : k x u { st with heap := h1 } = some r) {e : Ending} {w' : World} (h : CvPost K st.heap g w h1 x u e w') :
    (match (generalizing := false) e, w' with
      | .returned v, w'' => next (a.put o.dst v) w''
      | .panicked chain, w'' => Q (.panic chain) a w''
      | .outgrown, _ => LetsOut Q) := by
  obtain ⟨g', h2, h3, h4⟩ := h
  cases x with
  | normal =>
    obtain ⟨z, rfl, hz⟩ := h4
    exact c.on u _ g' w' z hk rfl h2 h3 hz
  | pan v =>
    obtain ⟨z, rfl, hz⟩ := h4
    exact c.pan v u _ g' w' z hk rfl h2 h3 hz
  | exit i => exact h4.elim
  | ret => exact h4.elim
theorem callV_wp (c : OpCont K P o a st g w k r next Q) (f : Operand) (args : Array Operand) (ts : Array TypeId) (ho : o.op = .call { callee := .value f, args, argTypes := ts }) {x : AExit} {u : AVal} {h1 : List ABlk}
    (hk : k x u { st with heap := h1 } = some r) (h : CallV P (a.eval f) (args.map a.eval) w (CvPost K st.heap g w h1 x u)) : o.wpIn (FW ro) 0 P a w next Q := by
  refine ⟨fun _ _ => trivial, ?_⟩
  rcases h with ⟨fid, caps, hfv, hen, hc⟩ | ⟨l, fid, tmps, aw, bo, hfv, hy, hc⟩ | ⟨fid, caps, v, hfv, _, hen, hc⟩
  · have hrun : (execOp a.eval o).run P w = .ok (.enter fid (args.map a.eval ++ caps)) w := by
      simp [execOp, ho, resolve, hfv, Deferred.ofValue, invoke, hen]
    rw [semAt_of hrun (fun d w' e => by cases e) (fun d c w' _ e => by cases e), Oper.uponIn_enter]
    exact ⟨fun h => by simp [FW] at h, (callsIn_of hc).mono fun e w' hp => c.call hk hp⟩
  · have hrun : (execOp a.eval o).run P w = .ok (.round l fid tmps aw bo) w := by
      simp [execOp, ho, resolve, hfv, Deferred.ofValue, invoke, hy]
    rw [semAt_of hrun (fun d w' e => by cases e) (fun d c w' _ e => by cases e), Oper.uponIn_round]
    exact ⟨fun h => by simp [FW] at h, RoundIn.mono (F := FW ro) hc fun e w' hp => c.call hk hp⟩
  · have hrun : (execOp a.eval o).run P w = .ok (.value v) w := by
      simp [execOp, ho, resolve, hfv, Deferred.ofValue, invoke, hen]
    exact (wp_value (P := P) (o := o) hrun (c.call hk hc)).2
theorem args_rep (htr : TRep st.heap g w st.tmps a.tmps) (args : Array Operand) : (args.toList.map st.ev).length = (args.map a.eval).size ∧ ∀ (j : Nat) c x, (args.toList.map st.ev)[j]? = some c → (args.map a.eval)[j]? = some x → Rep st.heap g w c x :=
  ⟨by simp, fun j c x hc hx => ops_rep htr args.toList j c x hc (by simpa using hx)⟩
theorem yld_wp (hE : EnvOk P env) (s : St K st.heap g w) (htr : TRep st.heap g w st.tmps a.tmps) (f : Operand) (args : Array Operand) (ts : Array TypeId) (ho : o.op = .call { callee := .value f, args, argTypes := ts })
    (v : AVal) (hf : st.ev f = v) (hk : env.cv α v (args.toList.map st.ev) st.heap (fun x v h => k x v { st with heap := h }) = some r) (c : OpCont K P o a st g w k r next Q) : o.wpIn (FW ro) 0 P a w next Q := by
  rw [hE.cv.nat] at hk
  cases hq : env.cv _ v (args.toList.map st.ev) st.heap tripE with
  | none => rw [hq] at hk; cases hk
  | some p =>
    obtain ⟨x, u, h1⟩ := p
    rw [hq] at hk
    obtain ⟨e1, e2⟩ := args_rep htr args
    have hv := htr.ev f
    rw [hf] at hv
    exact callV_wp c f args ts ho hk (hE.cv.ok v _ _ x u h1 hq K g w (a.eval f) _ s hv e1 e2)
theorem call_wp (hE : EnvOk P env) (s : St K st.heap g w) (htr : TRep st.heap g w st.tmps a.tmps) (dr : Bool) (f : Operand) (args : Array Operand) (ts : Array TypeId) (ho : o.op = .call { callee := .value f, args, argTypes := ts })
    (fid : FuncId) (caps : List AVal) (hf : st.ev f = .fn fid caps) (hk : evCall env dr fid caps (args.toList.map st.ev) st.heap (fun x v h => k x v { st with heap := h }) = some r) (c : OpCont K P o a st g w k r next Q) : o.wpIn (FW ro) 0 P a w next Q := by
  unfold evCall at hk
  split at hk
  · cases hd : (dr && !env.few)
    · rw [hd] at hk; exact yld_wp hE s htr f args ts ho _ hf hk c
    · rw [hd] at hk; cases hk
  · rename_i S hS
    have hok := hE.fs fid S hS
    cases hin : (!dr && env.inn fid)
    case true => rw [hin] at hk; exact yld_wp hE s htr f args ts ho _ hf hk c
    rw [hin, cond_false] at hk
    rw [evPure_nat hok] at hk
    cases hq : evPure S dr env.frz (args.toList.map st.ev ++ caps) st.heap tripE with
    | none => rw [hq] at hk; cases hk
    | some p =>
      obtain ⟨x, u, h1⟩ := p
      rw [hq] at hk
      have hfr := htr.ev f
      rw [hf] at hfr
      obtain ⟨carr, hfv, hcl, hcr⟩ : ∃ arr, a.eval f = .func (.func fid) #[] arr ∧ caps.length = arr.size ∧ ∀ (j : Nat) c x, caps[j]? = some c → arr[j]? = some x → Rep st.heap g w c x := by
        generalize a.eval f = q at hfr
        cases hfr with | fn _ _ arr a1 a2 => exact ⟨arr, rfl, a1, a2⟩
      obtain ⟨e1, e2⟩ := args_rep htr args
      refine callV_wp c f args ts ho hk (.inl ⟨fid, carr, hfv, fun w => hok.enter _ w, pure_calls hok s dr _ _ _ (by rw [List.length_append, Array.size_append, e1, hcl]) (fun j c x hc hx => ?_) hq⟩)
      rcases Nat.lt_or_ge j (args.toList.map st.ev).length with hj | hj
      · rw [List.getElem?_append_left hj] at hc
        rw [Array.getElem?_append_left (by rw [← e1]; exact hj)] at hx
        exact e2 j c x hc hx
      · rw [List.getElem?_append_right hj] at hc
        rw [Array.getElem?_append_right (by rw [← e1]; exact hj), ← e1] at hx
        exact hcr _ c x hc hx
end
end Go.Proofs.YtnhlnagihokokaaGreat

namespace Go.Proofs.YtnhlnagihokokaaGreat
open Go.RowKit
section
variable {ro : Option Nat} {P : Program} {T : Tab} {env : Env} {o : Oper} {a : Act} {w : World} {α : Type} {r : α} {K : Nat → Prop} {st : AS} {g : Gh} {k : AExit → AVal → AS → Option α} {next : Act → World → Prop} {Q : Exit → Act → World → Prop}
theorem getL_rep {vs : List AVal} {arr : Array Value} (hl : vs.length = arr.size) {h : List ABlk} (hr : ∀ (j : Nat) c x, vs[j]? = some c → arr[j]? = some x → Rep h g w c x) {ix : Nat} {v : AVal} (hv : vs[ix]? = some v) :
    ∃ x, arr[ix]? = some x ∧ Rep h g w v x := by
  have hlt := (List.getElem?_eq_some_iff.1 hv).1
  have hx : arr[ix]? = some arr[ix] := Array.getElem?_eq_getElem (by omega)
  exact ⟨_, hx, hr ix v _ hv hx⟩
theorem evOp_wp (hT : TabOk P T) (hE : EnvOk P env) (s : St K st.heap g w) (htr : TRep st.heap g w st.tmps a.tmps) (dr : Bool) (hk : evOp real T env dr o st k = some r) (c : OpCont K P o a st g w k r next Q) : o.wpIn (FW ro) 0 P a w next Q := by
  unfold evOp evOpH at hk
  split at hk
  · rename_i x ho
    exact same_wp s c hk (htr.ev x) (by simp [execOp, ho])
  · rename_i x ho
    have hr := htr.ev x
    have hrun : (execOp a.eval o).run P w = .ok (.value (a.eval x)) w := by simp [execOp, ho]
    split at hk
    · rename_i et hev hund
      rw [hev] at hr
      split at hk
      · rename_i e hsh
        split at hk
        · rename_i hc
          cases hnz : env.nz
          · rw [hnz, cond_false] at hk
            obtain ⟨l, s', hp⟩ := nil_row s et e hc.2.2
            refine wp_value hrun (c.on _ _ _ _ _ hk rfl s' l ?_)
            rw [rep_nils hr]; exact hp
          · rw [hnz, cond_true] at hk
            refine wp_value hrun (c.on _ _ g w _ hk rfl s .refl ?_)
            rw [rep_nils hr]; exact .ro0 e none 0 (Nat.zero_le _) fun _ => rfl
        · exact same_wp s c hk hr hrun
      · exact same_wp s c hk hr hrun
    · exact same_wp s c hk hr hrun
  · rename_i cc x y ho
    split at hk
    · rename_i t hev
      have hc := htr.ev cc
      rw [hev] at hc
      have hcv := rep_bool hc
      have hrun : (execOp a.eval o).run P w = .ok (.value (if t then a.eval x else a.eval y)) w := by
        simp [execOp, ho, hcv, asBool]
      split at hk
      · rename_i u v hu hv
        refine same_wp s c hk ?_ hrun
        have h1 := htr.ev x; rw [hu] at h1
        have h2 := htr.ev y; rw [hv] at h2
        cases t
        · exact h2
        · exact h1
      · simp only [real] at hk
        cases t
        · exact same_wp s c hk (htr.ev y) hrun
        · exact same_wp s c hk (htr.ev x) hrun
    · cases hk
  · rename_i t ho
    split at hk
    · rename_i z hz
      split at hk
      · rename_i hs
        exact (alloc_sound hT st s dr t ho hz hs (fun v s => k .normal v s) hk).wp c
      · cases hk
    · cases hk
  · rename_i t x ho
    split at hk
    · rename_i hs
      exact (box_sound st s htr (dr || !env.few) t x ho hs (fun v s => k .normal v s) hk).wp c
    · cases hk
  · rename_i t parts ho
    split at hk
    · rename_i z pl hz hpl
      split at hk
      · cases hk
      · rename_i hza
        split at hk
        · rename_i cs hf
          obtain ⟨v, h1, h2⟩ := build_sound (P := P) hT st htr t parts ho hz hpl (by simpa using hza) hf
          cases hd : (dr || !env.nrw)
          · rw [hd] at hk
            simp only [cond_false] at hk
            obtain ⟨g', l, s', hl, hr⟩ := nil_rows T cs (leavesT T 8 t) st.heap g s
            cases h1 with
            | agg _ arr hlen hcells =>
              refine wp_value h2 (c.on _ _ g' w _ hk rfl s' l (.agg _ arr (by rw [hl]; exact hlen) fun j c' x hc' hx => ?_))
              have hj : j < cs.length := by have := (List.getElem?_eq_some_iff.1 hc').1; omega
              exact (hr j _ c' x (List.getElem?_eq_getElem hj) hc' (hcells j _ x (List.getElem?_eq_getElem hj) hx)).1
          · rw [hd] at hk; exact same_wp s c hk h1 h2
        · cases hk
    · cases hk
  · rename_i t len parts ho
    split at hk
    · rename_i et hund
      split at hk
      · rename_i e z hsh hz
        split at hk
        · rename_i hc
          split at hk
          · cases hk
          · rename_i cs hf
            split at hk
            · rename_i hcs
              split at hk
              · cases hk
              · rename_i us hp
                split at hk
                · rename_i h' xs hkill hm
                  exact (buildSlice_sound hT st s htr t et len parts ho hund e z hz hc.2 hc.1 hf hcs hp hkill hm (fun v s => k .normal v s) hk).wp c
                · cases hk
            · cases hk
        · cases hk
      · cases hk
    · cases hk
  · rename_i t x ho
    split at hk
    · rename_i cs hcs
      split at hk
      · rename_i v hv
        obtain ⟨z, h1, h2⟩ := load_sound (P := P) hT s t x ho _ v cs (htr.ev x) hcs hv
        exact same_wp s c hk h1 h2
      · cases hk
    · cases hk
  · rename_i t x y ho
    obtain ⟨st', w', h1, h2, h3, h4, h5⟩ := store_sound hT st s t x y ho _ _ (htr.ev x) (htr.ev y) (fun s' => k .normal .undef s') hk
    exact wp_skip' h5 (c.on _ st' _ w' _ h1 h2 h3 h4 .undef)
  · rename_i x ho
    cases hl : (st.ev x).livePtr st.heap
    · rw [hl] at hk; cases hk
    · rw [hl] at hk
      obtain ⟨b, n, hp, _⟩ := live_add s (htr.ev x) hl
      exact same_wp s c hk (htr.ev x) (by simp [execOp, ho, hp])
  · rename_i op t x y yt ho
    obtain ⟨v, z, h1, h2, h3⟩ := bin_sound hT op t yt x y ho _ _ (fun v => k .normal v st) (htr.ev x) (htr.ev y) hk
    exact same_wp s c h1 h2 h3
  · rename_i op t x ho
    obtain ⟨v, z, h1, h2, h3⟩ := un_sound (P := P) op t x ho _ (fun v => k .normal v st) (htr.ev x) hk
    exact same_wp s c h1 h2 h3
  · rename_i src dst x ho
    split at hk
    · rename_i i n d j hx hsrc hdst
      have hr := htr.ev x
      rw [hx] at hr
      have hv := rep_int hr
      have hd := und_int hT hdst
      have hsd : ∃ d', P.underlying src = some d' := by
        cases d with
        | int k => exact ⟨_, und_int hT hsrc⟩
        | bool => exact ⟨_, und_bool hT hsrc⟩
        | str => exact ⟨_, und_str hT hsrc⟩
        | sl e => exact ⟨_, und_sl hT hsrc⟩
        | arr n e => exact ⟨_, und_arr hT hsrc⟩
        | recd l => exact let ⟨fs, h, _⟩ := und_recd hT hsrc; ⟨_, h⟩
        | ifc => exact let ⟨m, h⟩ := und_ifc hT hsrc; ⟨_, h⟩
        | other => exact let ⟨d, h, _⟩ := und_other hT hsrc; ⟨_, h⟩
      obtain ⟨d', hd'⟩ := hsd
      exact same_wp s c hk (.int _ _) (by simp [execOp, ho, convert, run_underlying hd', run_underlying hd, hv, Conv.intToInt])
    · cases hk
  · rename_i t x ho
    split at hk
    · cases hk
    · rename_i d hne hund
      have hsd : ∃ d', P.underlying t = some d' ∧ ∀ m, d' ≠ .interface m := by
        cases d with
        | int k => exact ⟨_, und_int hT hund, fun m e => by cases e⟩
        | bool => exact ⟨_, und_bool hT hund, fun m e => by cases e⟩
        | str => exact ⟨_, und_str hT hund, fun m e => by cases e⟩
        | sl e => exact ⟨_, und_sl hT hund, fun m e => by cases e⟩
        | arr n e => exact ⟨_, und_arr hT hund, fun m e => by cases e⟩
        | recd l => exact let ⟨fs, h, _⟩ := und_recd hT hund; ⟨_, h, fun m e => by cases e⟩
        | ifc => exact absurd rfl hne
        | other => exact let ⟨d, h, _, _, h5⟩ := und_other hT hund; ⟨_, h, h5⟩
      obtain ⟨d', hd', hni⟩ := hsd
      refine same_wp s c hk (.ifc t _ _ (htr.ev x)) ?_
      cases d' <;> first | exact absurd rfl (hni _) | simp [execOp, ho, Instr.makeInterface, run_underlying hd']
    · cases hk
  · rename_i f first caps ho
    split at hk
    · rename_i hz
      have hf : first = #[] := Array.eq_empty_of_size_eq_zero hz
      subst hf
      refine same_wp s c hk (.fn f _ (caps.map a.eval) (by simp) fun j cc x hc hx => ops_rep htr caps.toList j cc x hc (by simpa using hx)) ?_
      simp [execOp, ho, Instr.makeFunc]
    · cases hk
  · rename_i t x y ho
    exact (make_sound hT st s t x y ho _ _ (htr.ev x) (htr.ev y) (fun v s' => k .normal v s') hk).wp c
  · rename_i t x lo hi ho
    exact (slice_sound hT st s htr dr t x lo hi ho (fun v s' => k .normal v s') hk).wp c
  · rename_i t x f ho
    obtain ⟨v, z, h1, h2, h3⟩ := fieldAddr_sound (P := P) hT s t x f ho _ (fun v => k .normal v st) (htr.ev x) hk
    exact same_wp s c h1 h2 h3
  · rename_i t x f ho
    split at hk
    · rename_i v hv
      obtain ⟨z, h1, h2⟩ := field_sound (P := P) hT t x f ho _ v (htr.ev x) hv
      exact same_wp s c hk h1 h2
    · cases hk
  · rename_i t x ix ho
    obtain ⟨v, z, h1, h2, h3⟩ := indexAddr_sound (P := P) hT s t x ix ho _ _ (fun v => k .normal v st) (htr.ev x) (htr.ev ix) hk
    exact same_wp s c h1 h2 h3
  · rename_i t x ix ho
    obtain ⟨v, z, h1, h2, h3⟩ := index_sound (P := P) hT t x ix ho _ _ (fun v => k .normal v st) (htr.ev x) (htr.ev ix) hk
    exact same_wp s c h1 h2 h3
  · rename_i x ix ho
    split at hk
    · rename_i vs hx
      split at hk
      · rename_i v hv
        have hr := htr.ev x
        rw [hx] at hr
        obtain ⟨arr, harr, hl, hrr⟩ : ∃ arr, a.eval x = .tuple arr ∧ vs.length = arr.size ∧ ∀ (j : Nat) c x, vs[j]? = some c → arr[j]? = some x → Rep st.heap g w c x := by
          generalize a.eval x = q at hr
          cases hr with | tup _ arr a1 a2 => exact ⟨arr, rfl, a1, a2⟩
        obtain ⟨z, h1, h2⟩ := getL_rep hl hrr hv
        exact same_wp s c hk h2 (by simp [execOp, ho, harr, Instr.extract, h1])
      · cases hk
    · cases hk
  · rename_i args ts ho
    split at hk
    · rename_i x t hargs hts
      split at hk
      · rename_i e n hund hlen
        split at hk
        · cases hk
        · rename_i hne
          exact same_wp s c hk (.int _ _) (len_sound s .len rfl args ts x t hargs hts ho _ n (htr.ev x) hlen (.inl ⟨_, und_sl hT hund, fun q hq => hne q hq⟩))
      · rename_i n hund hlen
        split at hk
        · rename_i q hq
          exact same_wp s c hk (.int _ _) (len_sound s .len rfl args ts x t hargs hts ho _ n (htr.ev x) hlen (.inr ⟨und_str hT hund, _, hq⟩))
        · cases hk
      · cases hk
    · cases hk
  · rename_i args ts ho
    split at hk
    · rename_i j x l hargs
      split at hk
      · rename_i n hn
        exact same_wp s c hk (.int _ _) (min_sound htr .min rfl args ts ho j x n l hargs hn)
      · cases hk
    · cases hk
  · rename_i args ts ho
    split at hk
    · rename_i j x l hargs
      split at hk
      · rename_i n hn
        exact same_wp s c hk (.int _ _) (max_sound htr .max rfl args ts ho j x n l hargs hn)
      · cases hk
    · cases hk
  · rename_i args ts ho
    split at hk
    · rename_i x y t u hargs hts
      split at hk
      · rename_i htu
        subst htu
        exact (append_sound hT st s .append rfl t args ts x y hargs hts ho _ _ (htr.ev x) (htr.ev y) (fun v s' => k .normal v s') hk).wp c
      · cases hk
    · cases hk
  · rename_i f args ts ho
    split at hk
    · rename_i fid caps hf
      exact call_wp hE s htr dr f args ts ho fid caps hf hk c
    · rename_i i hf
      cases hd : (dr && !env.few)
      · rw [hd] at hk; exact yld_wp hE s htr f args ts ho _ hf hk c
      · rw [hd] at hk; cases hk
    · cases hk
  · rename_i x ho
    split at hk
    · rename_i t v hx
      cases dr
      · have hr := htr.ev x
        rw [hx] at hr
        obtain ⟨y, hy, hry⟩ : ∃ y, a.eval x = .iface t y ∧ Rep st.heap g w v y := by
          generalize a.eval x = q at hr
          cases hr with | ifc _ _ y h => exact ⟨y, rfl, h⟩
        have hrun : (execOp a.eval o).run P w = .halt (.panic (.iface t y)) w := by simp [execOp, ho, Instr.panic, hy]
        refine ⟨fun _ _ => trivial, ?_⟩
        rw [semAt_of hrun (fun d w' e => by cases e) (fun d c w' hd _ => by rw [ho] at hd; cases hd), Oper.uponIn_panic]
        exact c.pan _ _ st g w _ hk rfl s .refl (.ifc t v y hry)
      · cases hk
    · cases hk
  · cases hk
end
end Go.Proofs.YtnhlnagihokokaaGreat

namespace Go.Proofs.YtnhlnagihokokaaGreat
open Go.RowKit
def XR (h : List ABlk) (g : Gh) (w : World) : AExit → Exit → Prop
  | .normal, .normal => True
  | .exit i, .exit j => i = j
  | .ret, .ret => True
  | .pan v, .panic c => ∃ u, c = [{ v := u, recovered := false }] ∧ Rep h g w v u
  | _, _ => False
structure CCont {α : Type} (K : Nat → Prop) (h0 : List ABlk) (g0 : Gh) (w0 : World) (ds : List Deferred) (k : AExit → AS → Option α) (r : α) (Q : Exit → Act → World → Prop) : Prop where
  on : ∀ x (st' : AS) g' (a' : Act) w' e, k x st' = some r → St K st'.heap g' w' → Le K h0 g0 w0 st'.heap g' w' → TRep st'.heap g' w' st'.tmps a'.tmps → a'.defers = ds → XR st'.heap g' w' x e → Q e a' w'
theorem put_defers (a : Act) (dst : Option Tmp) (v : Value) : (a.put dst v).defers = a.defers := by cases dst <;> rfl
theorem put_heap (s : AS) (dst : Option Nat) (v : AVal) : (s.put dst v).heap = s.heap := by cases dst <;> rfl
theorem TRep.lit {h g w} {ts : List AVal} {tmps : Array Value} (t : TRep h g w ts tmps) {d : Nat} {v : AVal} (hd : ts.getD d .any = v) (hv : v ≠ .any) {u : AVal} (hu : ∀ x, Rep h g w v x → Rep h g w u x) : TRep h g w (ts.set d u) tmps := by
  refine ⟨by simpa using t.1, fun j c x hc hx => ?_⟩
  rw [List.getElem?_set] at hc
  split at hc
  · rename_i e
    subst e
    split at hc
    · rename_i hlt
      cases hc
      refine hu x (t.2 d v x ?_ hx)
      rw [List.getD_eq_getElem?_getD, List.getElem?_eq_getElem hlt] at hd
      rw [List.getElem?_eq_getElem hlt]; simpa using hd
    · cases hc
  · exact t.2 j c x hc hx
section
variable {ro : Option Nat} {P : Program} {T : Tab} {env : Env} {α : Type} {r : α} {K : Nat → Prop} {Q : Exit → Act → World → Prop} {ops : Array Oper}
theorem yielded_some {a : Act} {j d : Nat} (hd : (ops[j]?).bind (·.dst) = some d) : yielded ops a.tmps j = match a.tmps.getD d Go.undef with
    | .bool b => some b
    | _ => none := by
  unfold yielded
  rw [hd, Option.bind_some]
  have e : a.tmps.getD d Go.undef = (a.tmps[d]?).getD Go.undef := by simp [Array.getD_eq_getD_getElem?]
  rw [e]
  cases a.tmps[d]? with
  | none => rfl
  | some v => cases v <;> rfl
theorem evOps_wp (hT : TabOk P T) (hE : EnvOk P env) (dr : Bool) (k : AExit → AS → Option α) (h0 : List ABlk) (g0 : Gh) (w0 : World) (ds : List Deferred) (c : CCont K h0 g0 w0 ds k r Q) :
    ∀ (rest : List Oper) (i : Nat) (st : AS) (a : Act) (w : World) (g : Gh), ops.toList.drop i = rest → evOps real T env dr ops rest st k = some r → St K st.heap g w → Le K h0 g0 w0 st.heap g w → TRep st.heap g w st.tmps a.tmps → a.defers = ds →
      wpOpsIn (FW ro) 0 P ops Q (List.range' i rest.length) a w
  | [], i, st, a, w, g, _, hk, s, l, t, hd => by
    simp only [evOps] at hk
    exact c.on .normal st g a w .normal hk s l t hd trivial
  | o :: rest, i, st, a, w, g, hdr, hk, s, l, t, hd => by
    have hio : ops[i]? = some o := by
      have : (ops.toList.drop i)[0]? = some o := by rw [hdr]; rfl
      rw [List.getElem?_drop] at this; simpa using this
    have hnext : ops.toList.drop (i + 1) = rest := by
      rw [← List.drop_drop, hdr]; rfl
    rw [List.length_cons, List.range'_succ]
    simp only [wpOpsIn, hio]
    -- the operation is carried out
    have hgo : ∀ st1 : AS, st1.heap = st.heap → TRep st1.heap g w st1.tmps a.tmps → (evOp real T env dr o st1 fun x v s' =>
        match x with
        | .normal => evOps real T env dr ops rest (s'.put o.dst v) k
        | x => bif dr then none else k x s') = some r → o.wpIn (FW ro) 0 P a w (wpOpsIn (FW ro) 0 P ops Q (List.range' (i + 1) rest.length)) Q := by
      intro st1 hh t1 hk1
      refine evOp_wp (K := K) (g := g) hT hE (by rw [hh]; exact s) t1 dr hk1 ⟨fun v st' g' w' x hkv htm s' l' hr => ?_, fun v u st' g' w' x hkv htm s' l' hr => ?_⟩
      · simp only at hkv
        refine evOps_wp hT hE dr k h0 g0 w0 ds c rest (i + 1) _ (a.put o.dst x) w' g' hnext hkv (by rw [put_heap]; exact s') (by rw [put_heap]; rw [hh] at l'; exact l.trans l') ?_ (by rw [put_defers]; exact hd)
        rw [put_heap]
        have : TRep st'.heap g' w' st'.tmps a.tmps := by rw [htm]; exact t1.mono l'
        exact this.put o.dst hr
      · simp only at hkv
        replace hkv : k (.pan v) st' = some r := by
          cases dr
          · exact hkv
          · cases hkv
        refine c.on (.pan v) st' g' a w' _ hkv s' (by rw [hh] at l'; exact l.trans l') (by rw [htm]; exact t1.mono l') hd ⟨x, rfl, hr⟩
    -- the operation is passed over
    have hskip : ∀ st1 : AS, st1.heap = st.heap → TRep st1.heap g w st1.tmps a.tmps → evOps real T env dr ops rest (st1.put o.dst .undef) k = some r → wpOpsIn (FW ro) 0 P ops Q (List.range' (i + 1) rest.length) (a.put o.dst Go.undef) w := by
      intro st1 hh t1 hk1
      refine evOps_wp hT hE dr k h0 g0 w0 ds c rest (i + 1) _ _ w g hnext hk1 (by rw [put_heap, hh]; exact s) (by rw [put_heap, hh]; exact l) ?_ (by rw [put_defers]; exact hd)
      rw [put_heap]
      exact t1.put o.dst .undef
    simp only [evOps] at hk
    split at hk
    · rename_i hg
      rw [if_pos (by simp [Region.wanted, hg])]
      exact (hgo st rfl t hk)
    · rename_i j want hg
      split at hk
      · cases hk
      · rename_i d hdd
        have hy := yielded_some (a := a) hdd
        have htg := t.get d
        split at hk
        · rename_i b hb
          have hb' : st.tmps.getD d .any = .bool b := hb
          rw [hb'] at htg
          rw [rep_bool htg] at hy
          simp only at hy
          have hlit : TRep st.heap g w (st.tmps.set d (.bool b)) a.tmps := t.lit hb' (by simp) fun x h => h
          simp only [real] at hk
          cases b
          · simp only [cond_false] at hk
            cases want
            · rw [if_pos (by simp [Region.wanted, hg, hy])]
              exact (hgo (st.put (some d) (.bool false)) rfl hlit hk)
            · rw [if_neg (by simp [Region.wanted, hg, hy])]
              exact ⟨fun _ _ => trivial, hskip (st.put (some d) (.bool false)) rfl hlit hk⟩
          · simp only [cond_true] at hk
            cases want
            · rw [if_neg (by simp [Region.wanted, hg, hy])]
              exact ⟨fun _ _ => trivial, hskip (st.put (some d) (.bool true)) rfl hlit hk⟩
            · rw [if_pos (by simp [Region.wanted, hg, hy])]
              exact (hgo (st.put (some d) (.bool true)) rfl hlit hk)
        · rename_i hb
          have hb' : st.tmps.getD d .any = .undef := hb
          rw [hb'] at htg
          have hu : a.tmps.getD d Go.undef = Go.undef := by generalize a.tmps.getD d Go.undef = q at htg; cases htg; rfl
          rw [hu] at hy
          rw [if_neg (by simp [Region.wanted, hg, hy, Go.undef])]
          exact ⟨fun _ _ => trivial, hskip st rfl t hk⟩
        · cases hk
theorem region_wp (hT : TabOk P T) (hE : EnvOk P env) (id : Nat) (k : AExit → AS → Option α) (h0 : List ABlk) (g0 : Gh) (w0 : World) (ds : List Deferred) (c : CCont K h0 g0 w0 ds k r Q) (st : AS) (a : Act) (w : World) (g : Gh)
    (hk : evOps real T env false ops ops.toList st k = some r) (s : St K st.heap g w) (l : Le K h0 g0 w0 st.heap g w) (t : TRep st.heap g w st.tmps a.tmps) (hd : a.defers = ds) : (Code.region id ops false).wpIn (FW ro) 0 P Q a w := by
  refine wpIn_region ?_
  have := evOps_wp (ro := ro) hT hE false k h0 g0 w0 ds c ops.toList 0 st a w g rfl hk s l t hd
  rw [List.range_eq_range']
  simpa using this
end
end Go.Proofs.YtnhlnagihokokaaGreat

namespace Go.Proofs.YtnhlnagihokokaaGreat
section
variable {P : Program} {T : Tab} {env : Env} {α : Type}
theorem bif_bind {α β : Type} (b : Bool) (x y : Option α) (k : α → Option β) : (bif b then x else y).bind k = bif b then x.bind k else y.bind k := by cases b <;> rfl
theorem ite_bind' {α β : Type} (p : Prop) [Decidable p] (x y : Option α) (k : α → Option β) : (if p then x else y).bind k = if p then x.bind k else y.bind k := by split <;> rfl
theorem real_iff' {α : Type} (p : Prop) (d : Decidable p) (x y : Option α) : real.iff p d x y = if p then x else y := rfl
theorem evBin_nat (op : BinOp) (t : TypeId) (x y : AVal) (k : AVal → Option α) : evBin real T op t x y k = (evBin real T op t x y some).bind k := by
  unfold evBin real
  split
  · cases op <;> simp only [ite_bind', Option.bind_some, Option.bind_none]
  · split
    · cases op <;> simp only [Option.bind_some, Option.bind_none]
    · rfl
  · split
    · cases op <;> simp only [Option.bind_some, Option.bind_none]
    · rfl
  · split
    · split <;> rfl
    · split <;> rfl
    · rfl
  · split
    · split <;> simp only [ite_bind', Option.bind_some, Option.bind_none]
    · rfl
  · split
    · split <;> rfl
    · rfl
  · rfl
theorem byIdx_nat (n : Int) {β : Type} (f : Nat → Option α) (k : α → Option β) : ∀ (m i : Nat), byIdx real n (fun q => (f q).bind k) m i = (byIdx real n f m i).bind k
  | 0, i => rfl
  | m + 1, i => by rw [byIdx_real, byIdx_real, bif_bind, byIdx_nat n f k m (i + 1)]
theorem evUn_nat (op : UnOp) (x : AVal) (k : AVal → Option α) : evUn op x k = (evUn op x some).bind k := by
  unfold evUn
  split <;> rfl
theorem evStore_nat (t : TypeId) (a v : AVal) (h : List ABlk) (k : List ABlk → Option α) : evStore T t a v h k = (evStore T t a v h some).bind k := by
  unfold evStore
  split
  · split
    · split
      · split
        · simp only [ite_bind', Option.bind_some, Option.bind_none]
        · rfl
      · split
        · split
          · split <;> rfl
          · rfl
        · rfl
      · rfl
    · rfl
  · rfl
theorem evAppend_nat (t : TypeId) (x y : AVal) (h : List ABlk) (k : AVal → List ABlk → Option α) : evAppend real T t x y h k = (evAppend real T t x y h fun v h => some (v, h)).bind fun p => k p.1 p.2 := by
  unfold evAppend real
  split
  · split
    · rfl
    · split
      · rfl
      · split
        · split
          · rfl
          · split
            · rfl
            · split
              · simp only [ite_bind', Option.bind_some, Option.bind_none]
              · rfl
        · rfl
  · rfl
theorem evMake_nat (t : TypeId) (x y : AVal) (h : List ABlk) (k : AVal → List ABlk → Option α) : evMake real T t x y h k = (evMake real T t x y h fun v h => some (v, h)).bind fun p => k p.1 p.2 := by
  unfold evMake real
  split
  · split
    · split
      · split
        · simp only [ite_bind', Option.bind_some, Option.bind_none]
        · rfl
      · rfl
    · rfl
  · rfl
theorem evCut_nat (et : TypeId) (lo hi : Option AVal) (e : Sh) (xs : List e.ty) (h : List ABlk) (k : AVal → List ABlk → Option α) : evCut real T et lo hi e xs h k = (evCut real T et lo hi e xs h fun v h => some (v, h)).bind fun p => k p.1 p.2 := by
  unfold evCut real
  split
  · split <;> simp only [ite_bind', Option.bind_some, Option.bind_none]
  · rfl
theorem evSlice_nat (dr : Bool) (t : TypeId) (x : AVal) (lo hi : Option AVal) (h : List ABlk) (k : AVal → List ABlk → Option α) : evSlice real T dr t x lo hi h k = (evSlice real T dr t x lo hi h fun v h => some (v, h)).bind fun p => k p.1 p.2 := by
  unfold evSlice
  split
  · split
    · exact evCut_nat ..
    · split
      · cases dr
        · exact evCut_nat ..
        · rfl
      · rfl
    · rfl
  · rfl
theorem evIndexAddr_nat (t : TypeId) (x y : AVal) (h : List ABlk) (k : AVal → Option α) : evIndexAddr real T t x y h k = (evIndexAddr real T t x y h some).bind k := by
  unfold evIndexAddr
  split
  · split
    · split
      · simp only [real_iff', ite_bind', Option.bind_some, Option.bind_none]
      · split
        · simp only [real_iff', ite_bind', Option.bind_some, Option.bind_none]
        · rfl
      · rfl
    · simp only [real_iff', ite_bind', bif_bind, Option.bind_none]
      split
      · cases x <;> first | rfl | simp only [← byIdx_nat, Option.bind_some, Option.bind_none]
      · rfl
    · rfl
  · rfl
theorem evIndexV_nat (t : TypeId) (x y : AVal) (k : AVal → Option α) : evIndexV real T t x y k = (evIndexV real T t x y some).bind k := by
  unfold evIndexV
  split
  · split
    · split
      · split
        · simp only [real_iff', ite_bind', Option.bind_some, Option.bind_none]
        · rfl
      · rfl
    · rfl
  · rfl
theorem evFieldAddr_nat (t : TypeId) (x : AVal) (f : Nat) (h : List ABlk) (k : AVal → Option α) : evFieldAddr T t x f h k = (evFieldAddr T t x f h some).bind k := by
  unfold evFieldAddr
  split
  · split
    · split
      · rfl
      · simp only [bif_bind, Option.bind_none]
        cases x <;> rfl
    · rfl
  · rfl
theorem evCall_nat (hE : EnvOk P env) (dr : Bool) (f : FuncId) (caps args : List AVal) (h : List ABlk) (k : AExit → AVal → List ABlk → Option α) :
    evCall env dr f caps args h k = (evCall env dr f caps args h fun x v h => some (x, v, h)).bind fun p => k p.1 p.2.1 p.2.2 := by
  unfold evCall
  split
  · cases dr && !env.few
    · exact hE.cv.nat ..
    · rfl
  · rename_i S hS
    cases !dr && env.inn f
    · exact evPure_nat (hE.fs f S hS) ..
    · exact hE.cv.nat ..
theorem evOpH_nat (hE : EnvOk P env) (dr : Bool) (op : Op) (ty : TypeId) (ρ : Operand → AVal) (h : List ABlk) (k : AExit → AVal → List ABlk → Option α) :
    evOpH real T env dr op ty ρ h k = (evOpH real T env dr op ty ρ h fun x v h => some (x, v, h)).bind fun p => k p.1 p.2.1 p.2.2 := by
  unfold evOpH
  split
  · rfl
  · split
    · split
      · split
        · cases env.nz <;> rfl
        · rfl
      · rfl
    · rfl
  · split
    · split
      · rfl
      · simp only [real, bif_bind, Option.bind_some]
    · rfl
  · split
    · split
      · cases dr <;> rfl
      · rfl
    · rfl
  · simp only [ite_bind', bif_bind, Option.bind_some, Option.bind_none]
  · split
    · split
      · rfl
      · split
        · cases (dr || !env.nrw) <;> rfl
        · rfl
    · rfl
  · split
    · split
      · split
        · split
          · rfl
          · split
            · split
              · rfl
              · split <;> rfl
            · rfl
        · rfl
      · rfl
    · rfl
  · split
    · split <;> rfl
    · rfl
  · rw [evStore_nat, evStore_nat (k := fun h' => some (AExit.normal, AVal.undef, h'))]
    cases evStore T _ _ _ h some <;> rfl
  · simp only [bif_bind, Option.bind_some, Option.bind_none]
  · rw [evBin_nat, evBin_nat (k := fun v => some (AExit.normal, v, h))]
    cases evBin real T _ _ _ _ some <;> rfl
  · rw [evUn_nat, evUn_nat (k := fun v => some (AExit.normal, v, h))]
    cases evUn _ _ some <;> rfl
  · split <;> rfl
  · split <;> rfl
  · split <;> rfl
  · rw [evMake_nat, evMake_nat (k := fun v h' => some (AExit.normal, v, h'))]
    cases evMake real T _ _ _ h _ <;> rfl
  · rw [evSlice_nat, evSlice_nat (k := fun v h' => some (AExit.normal, v, h'))]
    cases evSlice real T dr _ _ _ _ h _ <;> rfl
  · rw [evFieldAddr_nat, evFieldAddr_nat (k := fun v => some (AExit.normal, v, h))]
    cases evFieldAddr T _ _ _ _ some <;> rfl
  · split <;> rfl
  · rw [evIndexAddr_nat, evIndexAddr_nat (k := fun v => some (AExit.normal, v, h))]
    cases evIndexAddr real T _ _ _ _ some <;> rfl
  · rw [evIndexV_nat, evIndexV_nat (k := fun v => some (AExit.normal, v, h))]
    cases evIndexV real T _ _ _ some <;> rfl
  · split
    · split <;> rfl
    · rfl
  · split
    · split
      · split <;> rfl
      · split <;> rfl
      · rfl
    · rfl
  · split
    · split <;> rfl
    · rfl
  · split
    · split <;> rfl
    · rfl
  · split
    · split
      · rw [evAppend_nat, evAppend_nat (k := fun v h' => some (AExit.normal, v, h'))]
        cases evAppend real T _ _ _ h _ <;> rfl
      · rfl
    · rfl
  · split
    · exact evCall_nat hE ..
    · cases dr && !env.few
      · exact hE.cv.nat ..
      · rfl
    · rfl
  · split
    · simp only [bif_bind, Option.bind_some, Option.bind_none]
    · rfl
  · rfl
end
end Go.Proofs.YtnhlnagihokokaaGreat

namespace Go.Proofs.YtnhlnagihokokaaGreat
open Go.RowKit
section
variable {P : Program} {T : Tab} {env : Env} {α : Type} {ops : Array Oper}
theorem put_same {s : AS} {d : Nat} {v : AVal} (h : s.get d = v) (hv : v ≠ .any) : s.put (some d) v = s := by
  obtain ⟨ts, h'⟩ := s
  simp only [AS.put, AS.get] at *
  congr 1
  rw [List.getD_eq_getElem?_getD] at h
  apply List.ext_getElem?
  intro j
  rw [List.getElem?_set]
  split
  · rename_i e
    subst e
    split
    · rename_i hl
      rw [List.getElem?_eq_getElem hl] at h ⊢
      simp at h; rw [h]
    · rename_i hl
      rw [List.getElem?_eq_none (by omega)]
  · rfl
theorem evOpH_congr (dr : Bool) (op : Op) (ty : TypeId) (ρ ρ' : Operand → AVal) (h : List ABlk) (k : AExit → AVal → List ABlk → Option α) (he : ∀ x ∈ op.operands.toList, ρ' x = ρ x) :
    evOpH real T env dr op ty ρ' h k = evOpH real T env dr op ty ρ h k := by
  have hl : ∀ (l : List Operand), (∀ x ∈ l, ρ' x = ρ x) → l.map ρ' = l.map ρ := fun l hl => List.map_congr_left hl
  cases op
  case move x => simp only [evOpH, he x (by simp [Op.operands])]
  case assign x => simp only [evOpH, he x (by simp [Op.operands])]
  case pick c x y => simp only [evOpH, he c (by simp [Op.operands]), he x (by simp [Op.operands]), he y (by simp [Op.operands])]
  case box t x => simp only [evOpH, he x (by simp [Op.operands])]
  case build t parts =>
    have : parts.toList.map (fun p => (p.1, ρ' p.2)) = parts.toList.map (fun p => (p.1, ρ p.2)) := List.map_congr_left fun p hp => by rw [he p.2 (by simp [Op.operands]; exact ⟨p.1, by simpa using hp⟩)]
    simp only [evOpH, this]
  case buildSlice t n parts =>
    have : parts.toList.map (fun p => (p.1, ρ' p.2)) = parts.toList.map (fun p => (p.1, ρ p.2)) := List.map_congr_left fun p hp => by rw [he p.2 (by simp [Op.operands]; exact ⟨p.1, by simpa using hp⟩)]
    simp only [evOpH, this]
  case load t x => simp only [evOpH, he x (by simp [Op.operands])]
  case store t x y => simp only [evOpH, he x (by simp [Op.operands]), he y (by simp [Op.operands])]
  case nilCheck x => simp only [evOpH, he x (by simp [Op.operands])]
  case binOp o t x y yt => simp only [evOpH, he x (by simp [Op.operands]), he y (by simp [Op.operands])]
  case unOp o t x => simp only [evOpH, he x (by simp [Op.operands])]
  case convert s d x => simp only [evOpH, he x (by simp [Op.operands])]
  case makeInterface t x => simp only [evOpH, he x (by simp [Op.operands])]
  case makeFunc f first caps =>
    cases f with
    | func f => simp only [evOpH, hl caps.toList fun x hx => he x (by simp [Op.operands]; exact .inr (by simpa using hx))]
    | _ => rfl
  case makeSlice t x y => simp only [evOpH, he x (by simp [Op.operands]), he y (by simp [Op.operands])]
  case slice t x lo hi mx =>
    cases mx with
    | some m => rfl
    | none =>
      have h1 : lo.map ρ' = lo.map ρ := by cases lo with
        | none => rfl
        | some y => simp [he y (by simp [Op.operands])]
      have h2 : hi.map ρ' = hi.map ρ := by cases hi with
        | none => rfl
        | some y => simp [he y (by simp [Op.operands])]
      simp only [evOpH, he x (by simp [Op.operands]), h1, h2]
  case fieldAddr t x f => simp only [evOpH, he x (by simp [Op.operands])]
  case field t x f => simp only [evOpH, he x (by simp [Op.operands])]
  case indexAddr t x ix => simp only [evOpH, he x (by simp [Op.operands]), he ix (by simp [Op.operands])]
  case index t x ix => simp only [evOpH, he x (by simp [Op.operands]), he ix (by simp [Op.operands])]
  case extract x ix => simp only [evOpH, he x (by simp [Op.operands])]
  case panic x => simp only [evOpH, he x (by simp [Op.operands])]
  case call c =>
    obtain ⟨callee, args, ts⟩ := c
    cases callee with
    | value f =>
      have hf := he f (by simp [Op.operands, Call.operands])
      have ha := hl args.toList fun x hx => he x (by simp [Op.operands, Call.operands]; exact .inr (by simpa using hx))
      simp only [evOpH, hf, ha]
    | invoke x m => rfl
    | builtin b =>
      have ha : ∀ x ∈ args.toList, ρ' x = ρ x := fun x hx => he x (by simp [Op.operands, Call.operands]; simpa using hx)
      have hm := hl args.toList ha
      cases b
      case len =>
        simp only [evOpH]
        split
        · rename_i x t h1 h2
          rw [ha x (by rw [h1]; simp)]
        · rfl
      case min => simp only [evOpH, hm]
      case max => simp only [evOpH, hm]
      case append =>
        simp only [evOpH]
        split
        · rename_i x y t u h1 h2
          rw [ha x (by rw [h1]; simp), ha y (by rw [h1]; simp)]
        · rfl
      all_goals rfl
  all_goals rfl
theorem ev_same {s s' : AS} {o : Oper} (h : ∀ d ∈ o.looksAt ops, s'.get d = s.get d) : ∀ x ∈ o.op.operands.toList, s'.ev x = s.ev x := by
  intro x hx
  cases x with
  | tmp t => exact h t (by simp only [Oper.looksAt, List.mem_append, List.mem_filterMap]; exact .inl ⟨.tmp t, hx, rfl⟩)
  | _ => rfl
theorem killAll_nil (h : List ABlk) : killAll h (dedup []) = some h := rfl
theorem evOpH_heap {op : Op} {ty : TypeId} {ρ : Operand → AVal} {h h' : List ABlk} {x : AExit} {v : AVal} (hE : EnvOk P env) (hne : opE op = false) (hcl : ∀ f args ts, op = .call { callee := .value f, args, argTypes := ts } → ∃ g caps, ρ f = .fn g caps ∧ (env.fs g).isSome = true) (hk : evOpH real T env true op ty ρ h (fun x v h => some (x, v, h)) = some (x, v, h')) : h' = h := by
  cases op
  case alloc => cases hne
  case box => cases hne
  case buildSlice => cases hne
  case makeSlice => cases hne
  case store => cases hne
  case move x => simp only [evOpH] at hk; cases hk; rfl
  case assign x =>
    simp only [evOpH] at hk
    split at hk
    · split at hk
      · rw [if_neg (by simp)] at hk; cases hk; rfl
      · cases hk; rfl
    · cases hk; rfl
  case pick c x y =>
    simp only [evOpH] at hk
    split at hk
    · rename_i t _
      split at hk
      · cases hk; rfl
      · simp only [real] at hk
        cases t <;> (cases hk; rfl)
    · cases hk
  case build t parts =>
    simp only [evOpH] at hk
    split at hk
    · split at hk
      · cases hk
      · split at hk
        · simp only [Bool.true_or, cond_true] at hk; cases hk; rfl
        · cases hk
    · cases hk
  case load t x =>
    simp only [evOpH] at hk
    split at hk
    · split at hk
      · cases hk; rfl
      · cases hk
    · cases hk
  case nilCheck x =>
    simp only [evOpH] at hk
    cases hl : (ρ x).livePtr h <;> rw [hl] at hk <;> cases hk
    rfl
  case binOp o t x y yt =>
    simp only [evOpH] at hk
    rw [evBin_nat] at hk
    cases hb : evBin real T o t (ρ x) (ρ y) some <;> rw [hb] at hk <;> cases hk
    rfl
  case unOp o t x =>
    simp only [evOpH] at hk
    rw [evUn_nat] at hk
    cases hb : evUn o (ρ x) some <;> rw [hb] at hk <;> cases hk
    rfl
  case convert a b x =>
    simp only [evOpH] at hk
    split at hk
    · cases hk; rfl
    · cases hk
  case makeInterface t x =>
    simp only [evOpH] at hk
    split at hk
    · cases hk
    · cases hk; rfl
    · cases hk
  case makeFunc f first caps =>
    cases f <;> simp only [evOpH] at hk
    · split at hk
      · cases hk; rfl
      · cases hk
    all_goals cases hk
  case slice t x lo hi mx =>
    cases mx with
    | some m => simp only [evOpH] at hk; cases hk
    | none =>
      simp only [evOpH, evSlice] at hk
      split at hk
      · split at hk
        · simp only [evCut, real] at hk
          split at hk
          · split at hk
            · cases hk; rfl
            · split at hk
              · cases hk; rfl
              · cases hk
            · split at hk
              · cases hk; rfl
              · cases hk
            · split at hk
              · cases hk; rfl
              · cases hk
            · cases hk
          · cases hk
        · split at hk <;> cases hk
        · cases hk
      · cases hk
  case fieldAddr t x f =>
    simp only [evOpH] at hk
    rw [evFieldAddr_nat] at hk
    cases hb : evFieldAddr T t (ρ x) f h some <;> rw [hb] at hk <;> cases hk
    rfl
  case field t x f =>
    simp only [evOpH] at hk
    split at hk
    · cases hk; rfl
    · cases hk
  case indexAddr t x ix =>
    simp only [evOpH] at hk
    rw [evIndexAddr_nat] at hk
    cases hb : evIndexAddr real T t (ρ x) (ρ ix) h some <;> rw [hb] at hk <;> cases hk
    rfl
  case index t x ix =>
    simp only [evOpH] at hk
    rw [evIndexV_nat] at hk
    cases hb : evIndexV real T t (ρ x) (ρ ix) some <;> rw [hb] at hk <;> cases hk
    rfl
  case extract x ix =>
    simp only [evOpH] at hk
    split at hk
    · split at hk
      · cases hk; rfl
      · cases hk
    · cases hk
  case panic x =>
    simp only [evOpH] at hk
    split at hk <;> cases hk
  case call c =>
    obtain ⟨callee, args, ts⟩ := c
    cases callee with
    | value f =>
      simp only [evOpH] at hk
      split at hk
      · rename_i fid caps hfc
        unfold evCall at hk
        split at hk
        · rename_i hno
          obtain ⟨g', c', e1, e2⟩ := hcl f args ts rfl
          rw [hfc] at e1; cases e1
          rw [hno] at e2; cases e2
        · rename_i S hS
          rw [Bool.not_true, Bool.false_and, cond_false] at hk
          unfold evPure at hk
          split at hk
          · cases hk
          · rename_i aw _
            rw [(hE.fs fid S hS).nat] at hk
            cases hout : S AOut aw some with
            | none => rw [hout] at hk; cases hk
            | some out =>
              rw [hout] at hk
              simp only [Option.bind_some] at hk
              cases out with
              | pan u =>
                simp only at hk
                cases hu : (!u.flat2) <;> rw [hu] at hk <;> cases hk
                rfl
              | ret u =>
                simp only at hk
                split at hk
                · cases hk; rfl
                · cases hn : ((args.toList.map ρ ++ caps).flatMap AVal.namedP).isEmpty
                  · rw [hn] at hk; cases hk
                  · rw [hn] at hk
                    have := List.isEmpty_iff.1 hn
                    rw [this] at hk
                    simp only [Bool.not_true, Bool.and_false, cond_false, killZ, killAll_nil] at hk
                    cases hk; rfl
      · rename_i i hfy
        obtain ⟨g', c', e1, e2⟩ := hcl f args ts rfl
        rw [hfy] at e1; cases e1
      · cases hk
    | invoke x m => simp only [evOpH] at hk; cases hk
    | builtin b =>
      cases b
      case append => cases hne
      case len =>
        simp only [evOpH] at hk
        split at hk
        · split at hk
          · split at hk
            · cases hk
            · cases hk; rfl
          · split at hk
            · cases hk; rfl
            · cases hk
          · cases hk
        · cases hk
      case min =>
        simp only [evOpH] at hk
        split at hk
        · split at hk
          · cases hk; rfl
          · cases hk
        · cases hk
      case max =>
        simp only [evOpH] at hk
        split at hk
        · split at hk
          · cases hk; rfl
          · cases hk
        · cases hk
      all_goals (simp only [evOpH] at hk; cases hk)
  all_goals (simp only [evOpH] at hk; cases hk)
theorem evOpH_any {op : Op} {ty : TypeId} {ρ : Operand → AVal} {h h' : List ABlk} {x : AExit} {v : AVal} (hne : opR op = false) (h2 : List ABlk) (hk : evOpH real T env true op ty ρ h (fun x v h => some (x, v, h)) = some (x, v, h')) :
    evOpH real T env true op ty ρ h2 (fun x v h => some (x, v, h)) = some (x, v, h2) := by
  cases op
  case move x => simp only [evOpH] at hk ⊢; cases hk; rfl
  case assign x =>
    simp only [evOpH] at hk ⊢
    split at hk
    · split at hk
      · rw [if_neg (by simp)] at hk; cases hk; simp
      · cases hk; rfl
    · cases hk; rfl
  case pick c x y =>
    simp only [evOpH] at hk ⊢
    split at hk
    · rename_i t _
      split at hk
      · cases hk; rfl
      · simp only [real] at hk ⊢
        cases t <;> (cases hk; rfl)
    · cases hk
  case build t parts =>
    simp only [evOpH] at hk ⊢
    split at hk
    · split at hk
      · cases hk
      · rename_i hz
        split at hk
        · simp only [Bool.true_or, cond_true] at hk ⊢; cases hk; simp [hz]
        · cases hk
    · cases hk
  case binOp o t x y yt =>
    simp only [evOpH] at hk ⊢
    rw [evBin_nat] at hk ⊢
    cases hb : evBin real T o t (ρ x) (ρ y) some <;> rw [hb] at hk <;> cases hk
    rfl
  case unOp o t x =>
    simp only [evOpH] at hk ⊢
    rw [evUn_nat] at hk ⊢
    cases hb : evUn o (ρ x) some <;> rw [hb] at hk <;> cases hk
    rfl
  case convert a b x =>
    simp only [evOpH] at hk ⊢
    split at hk
    · cases hk; rfl
    · cases hk
  case makeInterface t x =>
    simp only [evOpH] at hk ⊢
    split at hk
    · cases hk
    · cases hk; rfl
    · cases hk
  case makeFunc f first caps =>
    cases f <;> simp only [evOpH] at hk ⊢
    · split at hk
      · cases hk; simp [*]
      · cases hk
    all_goals cases hk
  case field t x f =>
    simp only [evOpH] at hk ⊢
    split at hk
    · cases hk; rfl
    · cases hk
  case index t x ix =>
    simp only [evOpH] at hk ⊢
    rw [evIndexV_nat] at hk ⊢
    cases hb : evIndexV real T t (ρ x) (ρ ix) some <;> rw [hb] at hk <;> cases hk
    rfl
  case extract x ix =>
    simp only [evOpH] at hk ⊢
    split at hk
    · split at hk
      · cases hk; rfl
      · cases hk
    · cases hk
  all_goals cases hne
end
end Go.Proofs.YtnhlnagihokokaaGreat

namespace Go.Proofs.YtnhlnagihokokaaGreat
open Go.RowKit
theorem getD_of {h h' : List ABlk} {i : Nat} (e : h'[i]? = h[i]?) : h'.getD i .dead = h.getD i .dead := by
  rw [List.getD_eq_getElem?_getD, List.getD_eq_getElem?_getD, e]
theorem peek0_of {h h' : List ABlk} {v : AVal} (e : ∀ i ∈ v.named0, h'[i]? = h[i]?) : peek0 h' v = peek0 h v := by
  cases v with
  | own i => simp only [peek0]; rw [getD_of (e i (by simp [AVal.named0]))]
  | fn f cs => cases cs <;> rfl
  | _ => rfl
theorem peekL_of {f f' : AVal → Option AVal} : ∀ (l : List AVal), (∀ v ∈ l, f' v = f v) → peekL f' l = peekL f l
  | [], _ => rfl
  | v :: r, e => by
    simp only [peekL]
    rw [e v (by simp), peekL_of r fun u hu => e u (List.mem_cons_of_mem _ hu)]
theorem peek1_of {h h' : List ABlk} {v : AVal} (e : ∀ i ∈ v.named1, h'[i]? = h[i]?) : peek1 h' v = peek1 h v := by
  have inner : ∀ cs : List AVal, (∀ i ∈ cs.flatMap AVal.named0, h'[i]? = h[i]?) → peekL (peek0 h') cs = peekL (peek0 h) cs := fun cs e =>
    peekL_of cs fun v hv => peek0_of fun i hi => e i (List.mem_flatMap.2 ⟨v, hv, hi⟩)
  have innerC : ∀ cs : List AVal, (∀ i ∈ cs.flatMap AVal.named0, h'[i]? = h[i]?) → peekL (peekC h') cs = peekL (peekC h) cs := fun cs e =>
    peekL_of cs fun v hv => by
      have e0 := peek0_of (v := v) fun i hi => e i (List.mem_flatMap.2 ⟨v, hv, hi⟩)
      cases v <;> first | rfl | exact e0
  cases v with
  | agg cs => simp only [peek1]; rw [inner cs e]
  | fn f cs => simp only [peek1]; rw [innerC cs e]
  | own i => exact peek0_of (v := .own i) e
  | _ => rfl
theorem peekP_of {h h' : List ABlk} {v : AVal} (e : ∀ i ∈ v.namedP, h'[i]? = h[i]?) : peekP h' v = peekP h v := by
  cases v with
  | op i off => simp only [peekP]; rw [getD_of (e i (by simp [AVal.namedP]))]
  | agg cs => exact peek1_of (v := .agg cs) e
  | fn f cs => exact peek1_of (v := .fn f cs) e
  | own i => exact peek1_of (v := .own i) e
  | _ => rfl
theorem cellsAt_of {h h' : List ABlk} {v : AVal} {F : List Nat} (hf : blkRef v = some F) (e : ∀ i ∈ F, h'[i]? = h[i]?) : cellsAt h' v = cellsAt h v := by
  cases v with
  | op i off => cases hf; simp only [cellsAt]; rw [getD_of (e i (by simp))]
  | oe i ix off => cases hf; simp only [cellsAt]; rw [getD_of (e i (by simp))]
  | _ => rfl
theorem live_of {h h' : List ABlk} {v : AVal} {F : List Nat} (hf : blkRef v = some F) (e : ∀ i ∈ F, h'[i]? = h[i]?) : v.livePtr h' = v.livePtr h := by
  cases v with
  | op i off => cases hf; simp only [AVal.livePtr]; rw [getD_of (e i (by simp))]
  | oe i ix off => cases hf; simp only [AVal.livePtr]; rw [getD_of (e i (by simp))]
  | _ => rfl
theorem len_of {h h' : List ABlk} {v : AVal} {F : List Nat} (hf : blkRef v = some F) (e : ∀ i ∈ F, h'[i]? = h[i]?) : evLen h' v = evLen h v := by
  cases v with
  | own i => cases hf; simp only [evLen]; rw [getD_of (e i (by simp))]
  | _ => rfl
section
variable {P : Program} {T : Tab} {env : Env} {α : Type} {ops : Array Oper}
theorem fieldAddr_of {t : TypeId} {v : AVal} {f : Nat} {h h' : List ABlk} {F : List Nat} (hf : blkRef v = some F) (e : ∀ i ∈ F, h'[i]? = h[i]?) (k : AVal → Option α) : evFieldAddr T t v f h' k = evFieldAddr T t v f h k := by
  unfold evFieldAddr
  rw [live_of hf e]
theorem indexAddr_of {t : TypeId} {v ix : AVal} {h h' : List ABlk} {F : List Nat} (hf : blkRef v = some F) (e : ∀ i ∈ F, h'[i]? = h[i]?) (k : AVal → Option α) : evIndexAddr real T t v ix h' k = evIndexAddr real T t v ix h k := by
  unfold evIndexAddr
  rw [live_of hf e]
  cases v with
  | own i => cases hf; simp only; rw [getD_of (e i (by simp))]
  | _ => rfl
theorem store_of {t : TypeId} {a v : AVal} {h : List ABlk} {h1 : List ABlk} {F : List Nat} (hf : blkRef a = some F) (hk : evStore T t a v h some = some h1) :
    h1.length = h.length ∧ (∀ i, i ∉ F → h1[i]? = h[i]?) ∧ ∀ h', (∀ i ∈ F, h'[i]? = h[i]?) → ∃ h1', evStore T t a v h' some = some h1' ∧ h1'.length = h'.length ∧ (∀ i ∈ F, h1'[i]? = h1[i]?) ∧ ∀ i, i ∉ F → h1'[i]? = h'[i]? := by
  have main : ∀ (i : Nat) (nb : ABlk), F = [i] → h1 = h.set i nb → i < h.length → (∀ h' : List ABlk, h'[i]? = h[i]? → evStore T t a v h' some = some (h'.set i nb)) →
      h1.length = h.length ∧ (∀ i, i ∉ F → h1[i]? = h[i]?) ∧ ∀ h', (∀ i ∈ F, h'[i]? = h[i]?) → ∃ h1', evStore T t a v h' some = some h1' ∧ h1'.length = h'.length ∧ (∀ i ∈ F, h1'[i]? = h1[i]?) ∧ ∀ i, i ∉ F → h1'[i]? = h'[i]? := fun i nb e1 e2 hlt e3 => by
    subst e1; subst e2
    refine ⟨by simp, fun j hj => by rw [List.getElem?_set, if_neg fun e => hj (by simp [e])], fun h' he => ⟨_, e3 h' (he i (by simp)), by simp, fun j hj => ?_, fun j hj => by rw [List.getElem?_set, if_neg fun e => hj (by simp [e])]⟩⟩
    simp only [List.mem_singleton] at hj
    subst hj
    have hi := he j (by simp)
    have hlt' : j < h'.length := by
      rw [List.getElem?_eq_getElem hlt] at hi
      exact (List.getElem?_eq_some_iff.1 hi).1
    rw [List.getElem?_set, List.getElem?_set, if_pos rfl, if_pos rfl, if_pos hlt, if_pos hlt']
  unfold evStore at hk
  split at hk
  · rename_i h0
    split at hk
    · rename_i hs
      split at hk
      · rename_i i off
        cases hf
        split at hk
        · rename_i cs hh
          split at hk
          · rename_i ho
            cases hk
            have hi := getD_some (by simp) hh
            refine main i _ rfl rfl (List.getElem?_eq_some_iff.1 hi).1 fun h' e => ?_
            unfold evStore
            rw [if_pos h0, if_pos hs]
            simp only
            rw [getD_of e, hh]
            simp only
            rw [if_pos ho]
          · cases hk
        · cases hk
      · rename_i i ix off
        cases hf
        split at hk
        · rename_i t' e xs hh
          split at hk
          · rename_i ho
            split at hk
            · rename_i y hy
              cases hk
              have hi := getD_some (by simp) hh
              refine main i _ rfl rfl (List.getElem?_eq_some_iff.1 hi).1 fun h' e => ?_
              unfold evStore
              rw [if_pos h0, if_pos hs]
              simp only
              rw [getD_of e, hh]
              simp only
              rw [if_pos ho, hy]
            · cases hk
          · cases hk
        · cases hk
      · cases hk
    · cases hk
  · cases hk
abbrev evT (T : Tab) (env : Env) (rp : Bool) (n : Nat) (op : Op) (ty : TypeId) (ρ : Operand → AVal) (h : List ABlk) : Option (AExit × AVal × List ABlk) := evD real T env rp n op ty ρ h tripE
theorem relab_nat (n : Nat) (h : List ABlk) (x : AExit) (v : AVal) (h1 : List ABlk) (k : AExit → AVal → List ABlk → Option α) : relab n h x v h1 k = (relab n h x v h1 tripE).bind fun p => k p.1 p.2.1 p.2.2 := by
  unfold relab
  split
  · split
    · split <;> rfl
    · split <;> rfl
    · rfl
  · rfl
theorem evD_nat (hE : EnvOk P env) (rp : Bool) (n : Nat) (op : Op) (ty : TypeId) (ρ : Operand → AVal) (h : List ABlk) (k : AExit → AVal → List ABlk → Option α) : evD real T env rp n op ty ρ h k = (evT T env rp n op ty ρ h).bind fun p => k p.1 p.2.1 p.2.2 := by
  unfold evT evD
  cases isAlloc rp op
  · exact evOpH_nat hE ..
  · simp only [cond_true]
    rw [evOpH_nat hE, evOpH_nat hE (k := fun x v h1 => relab n h x v h1 tripE)]
    cases evOpH real T env true op ty ρ h (fun x v h => some (x, v, h)) with
    | none => rfl
    | some p => exact relab_nat ..
theorem evT_new {rp : Bool} {n : Nat} {op : Op} {ty : TypeId} {ρ : Operand → AVal} {h : List ABlk} {x : AExit} {v : AVal} {h1 : List ABlk} (ha : isAlloc false op = true) (hk : evT T env rp n op ty ρ h = some (x, v, h1)) :
    ∃ cs, x = .normal ∧ v = .op n 0 ∧ h1 = h.set n (.box true cs) ∧ h[n]? = some .free ∧ ∀ h' : List ABlk, h'[n]? = some .free → evT T env rp n op ty ρ h' = some (.normal, .op n 0, h'.set n (.box true cs)) := by
  have main : ∀ (cs : List AVal), (∀ h' : List ABlk, evT T env rp n op ty ρ h' = relab n h' .normal (.op h'.length 0) (h' ++ [.box true cs]) tripE) → ∃ cs, x = .normal ∧ v = .op n 0 ∧ h1 = h.set n (.box true cs) ∧ h[n]? = some .free ∧ ∀ h' : List ABlk, h'[n]? = some .free → evT T env rp n op ty ρ h' = some (.normal, .op n 0, h'.set n (.box true cs)) := fun cs e => by
    have at' : ∀ h' : List ABlk, h'[n]? = some .free → evT T env rp n op ty ρ h' = some (.normal, .op n 0, h'.set n (.box true cs)) := fun h' hn => by
      rw [e h']
      unfold relab
      rw [hn]
      simp only
      rw [if_pos (by simp)]
      simp [tripE]
    have hn : h[n]? = some .free := by
      rw [e h] at hk
      unfold relab at hk
      split at hk
      · assumption
      · cases hk
    rw [at' h hn] at hk
    cases hk
    exact ⟨cs, rfl, rfl, rfl, hn, at'⟩
  cases op
  case alloc t =>
    cases hz : T.zero t with
    | none => simp only [evT, evD, isAlloc, cond_true, evOpH, hz] at hk; cases hk
    | some z =>
      by_cases hs : z.cells.all AVal.scalar = true
      · exact main z.cells fun h' => by simp only [evT, evD, isAlloc, cond_true, evOpH, hz]; rw [if_pos hs]
      · simp only [evT, evD, isAlloc, cond_true, evOpH, hz] at hk
        rw [if_neg hs] at hk; cases hk
  case box t y =>
    by_cases hs : (ρ y).cells.all AVal.scalar = true
    · exact main (ρ y).cells fun h' => by simp only [evT, evD, isAlloc, cond_true, evOpH]; rw [if_pos hs, Bool.true_or, cond_true]
    · simp only [evT, evD, isAlloc, cond_true, evOpH] at hk
      rw [if_neg hs] at hk; cases hk
  all_goals cases ha
theorem onlyRd_spec {o : Option (List Nat)} {F W : List Nat} (h : onlyRd o = some (F, W)) : o = some F ∧ [] = W := by
  cases o with
  | none => cases h
  | some l => cases h; exact ⟨rfl, rfl⟩
structure Local (F W : List Nat) (h h1 : List ABlk) (D : List ABlk → Option (AExit × AVal × List ABlk)) (x : AExit) (v : AVal) : Prop where
  sub : ∀ i ∈ W, i ∈ F
  len : h1.length = h.length
  off : ∀ i, i ∉ W → h1[i]? = h[i]?
  all : ∀ h' : List ABlk, (∀ i ∈ F, h'[i]? = h[i]?) → ∃ h1', D h' = some (x, v, h1') ∧ h1'.length = h'.length ∧ (∀ i ∈ W, h1'[i]? = h1[i]?) ∧ ∀ i, i ∉ W → h1'[i]? = h'[i]?
theorem Local.same {F : List Nat} {h : List ABlk} {D : List ABlk → Option (AExit × AVal × List ABlk)} {x : AExit} {v : AVal} (hD : ∀ h' : List ABlk, (∀ i ∈ F, h'[i]? = h[i]?) → D h' = some (x, v, h')) : Local F [] h h D x v :=
  ⟨fun i hi => by simp at hi, rfl, fun _ _ => rfl, fun h' he => ⟨h', hD h' he, rfl, fun i hi => by simp at hi, fun _ _ => rfl⟩⟩
theorem evOpH_row {op : Op} {ty : TypeId} {ρ : Operand → AVal} {h : List ABlk} (hr : isRowMk op = true) (k : AExit → AVal → List ABlk → Option α) : evOpH real T env true op ty ρ h k = (evOpH real T env true op ty ρ h tripE).bind fun p => k p.1 p.2.1 p.2.2 := by
  cases op
  case makeSlice t l c =>
    simp only [evOpH]
    rw [evMake_nat, evMake_nat (k := fun v h' => tripE .normal v h')]
    cases evMake real T t (ρ l) (ρ c) h (fun v h => some (v, h)) <;> rfl
  case buildSlice t len parts =>
    simp only [evOpH]
    split
    · split
      · split
        · split
          · rfl
          · split
            · split
              · rfl
              · split <;> rfl
            · rfl
        · rfl
      · rfl
    · rfl
  case call c =>
    obtain ⟨callee, args, ts⟩ := c
    cases callee with
    | value f => cases hr
    | invoke y m => cases hr
    | builtin b =>
      cases b <;> first | (cases hr; done) | skip
      simp only [evOpH]
      split
      · split
        · rw [evAppend_nat, evAppend_nat (k := fun v h' => tripE .normal v h')]
          cases evAppend real T _ _ _ h (fun v h => some (v, h)) <;> rfl
        · rfl
      · rfl
  all_goals cases hr
def killD (h : List ABlk) (A : List Nat) : List ABlk := A.foldl (fun h i => h.set i .dead) h
theorem killD_len : ∀ (A : List Nat) (h : List ABlk), (killD h A).length = h.length
  | [], h => rfl
  | i :: A, h => by
    show (killD (h.set i .dead) A).length = h.length
    rw [killD_len A, List.length_set]
theorem killD_off : ∀ (A : List Nat) (h : List ABlk) (j : Nat), j ∉ A → (killD h A)[j]? = h[j]?
  | [], h, j, _ => rfl
  | i :: A, h, j, hj => by
    show (killD (h.set i .dead) A)[j]? = h[j]?
    rw [killD_off A _ j fun e => hj (List.mem_cons_of_mem _ e), List.getElem?_set, if_neg fun e => hj (by simp [e])]
theorem killD_at : ∀ (A : List Nat) (h : List ABlk) (j : Nat), (killD h A)[j]? = h[j]? ∨ (killD h A)[j]? = some .dead
  | [], h, j => .inl rfl
  | i :: A, h, j => by
    show (killD (h.set i .dead) A)[j]? = h[j]? ∨ (killD (h.set i .dead) A)[j]? = some .dead
    rcases killD_at A (h.set i .dead) j with e | e
    · rw [e, List.getElem?_set]
      by_cases hij : i = j
      · subst hij
        by_cases hl : i < h.length
        · rw [if_pos rfl, if_pos hl]; exact .inr rfl
        · rw [if_pos rfl, if_neg hl, List.getElem?_eq_none (by omega)]; exact .inl rfl
      · rw [if_neg hij]; exact .inl rfl
    · exact .inr e
theorem killD_same {h h' : List ABlk} : ∀ (A : List Nat) (j : Nat), h'[j]? = h[j]? → (killD h' A)[j]? = (killD h A)[j]?
  | [], j, e => e
  | i :: A, j, e => by
    refine killD_same (h := h.set i .dead) (h' := h'.set i .dead) A j ?_
    rw [List.getElem?_set, List.getElem?_set]
    by_cases hij : i = j
    · subst hij
      have : i < h.length ↔ i < h'.length := by
        constructor <;> intro hl
        · rw [List.getElem?_eq_getElem hl] at e; exact (List.getElem?_eq_some_iff.1 e).1
        · rw [List.getElem?_eq_getElem hl] at e; exact (List.getElem?_eq_some_iff.1 e.symm).1
      rw [if_pos rfl, if_pos rfl]
      by_cases hl : i < h.length
      · rw [if_pos hl, if_pos (this.1 hl)]
      · rw [if_neg hl, if_neg fun x => hl (this.2 x)]
    · rw [if_neg hij, if_neg hij]; exact e
def isRowB : ABlk → Prop
  | .row true _ _ _ => True
  | _ => False
structure RowMk (F A : List Nat) (h : List ABlk) (D : List ABlk → Option (AExit × AVal × List ABlk)) (x : AExit) (v : AVal) (h1 : List ABlk) (b : ABlk) : Prop where
  ex : x = .normal
  val : v = .own h.length
  mem : h1 = killD h A ++ [b]
  row : isRowB b
  all : ∀ h' : List ABlk, (∀ i ∈ F, h'[i]? = h[i]?) → D h' = some (.normal, .own h'.length, killD h' A ++ [b])
theorem make_shape (t : TypeId) (l c : AVal) : ∃ o : Option ABlk, (∀ b, o = some b → isRowB b) ∧ ∀ (h : List ABlk) (k : AVal → List ABlk → Option (AExit × AVal × List ABlk)), evMake real T t l c h k = o.bind fun b => k (.own h.length) (h ++ [b]) := by
  by_cases hx : ∃ b, isRowB b ∧ ∀ (h : List ABlk) (k : AVal → List ABlk → Option (AExit × AVal × List ABlk)), evMake real T t l c h k = k (.own h.length) (h ++ [b])
  · obtain ⟨b, h1, h2⟩ := hx
    exact ⟨some b, fun b' e => by cases e; exact h1, h2⟩
  · refine ⟨none, fun b e => (by cases e), fun h k => ?_⟩
    unfold evMake
    split
    · rename_i et n m e1
      split
      · rename_i e z e4 e5
        split
        · rename_i e6
          split
          · rename_i y e7
            simp only [real]
            split
            · rename_i e8
              exfalso
              refine hx ⟨.row true et e (List.replicate n.toNat y), trivial, fun h k => ?_⟩
              unfold evMake
              simp only [e1, e4, e5, e7, real]
              rw [if_pos e6, if_pos e8]
            · rfl
          · rfl
        · rfl
      · rfl
    · rfl
theorem append_shape {t : TypeId} {x y : AVal} {A B : List Nat} (hx : blkRow x = some A) (hy : blkArg y = some B) {h : List ABlk} {v : AVal} {h1 : List ABlk} (hk : evAppend real T t x y h (fun v h' => tripE .normal v h') = some (.normal, v, h1)) :
    ∃ b, isRowB b ∧ v = .own h.length ∧ h1 = killD h A ++ [b] ∧ ∀ h' : List ABlk, (∀ i ∈ A ++ B, h'[i]? = h[i]?) → evAppend real T t x y h' (fun v h' => tripE .normal v h') = some (.normal, .own h'.length, killD h' A ++ [b]) := by
  unfold evAppend at hk
  split at hk
  case h_2 => cases hk
  rename_i et hund
  split at hk
  · cases hk
  rename_i hbt
  split at hk
  · cases hk
  rename_i e xs hh hrow
  split at hk
  case isFalse => cases hk
  rename_i hc
  -- the row
  have rw1 : hh = killD h A ∧ ∀ h' : List ABlk, (∀ i ∈ A ++ B, h'[i]? = h[i]?) → rowOf T h' et x = some ⟨e, xs, killD h' A⟩ := by
    cases x <;> simp only [blkRow] at hx <;> cases hx
    · simp only [rowOf] at hrow
      split at hrow
      · rename_i ht
        split at hrow
        · rename_i e2
          cases hrow
          refine ⟨rfl, fun h' he => ?_⟩
          simp only [rowOf]
          rw [ht]
          simp only
          rw [if_pos e2]
          rfl
        · cases hrow
      · cases hrow
    · rename_i i
      simp only [rowOf] at hrow
      split at hrow
      · rename_i t' e' xs' ht
        split at hrow
        · rename_i e2
          cases hrow
          refine ⟨rfl, fun h' he => ?_⟩
          simp only [rowOf]
          rw [getD_of (he i (by simp)), ht]
          simp only
          rw [if_pos e2]
          rfl
        · cases hrow
      · cases hrow
  obtain ⟨rfl, rw2⟩ := rw1
  have unf : ∀ h' : List ABlk, (∀ i ∈ A ++ B, h'[i]? = h[i]?) → ∀ (kk : AVal → List ABlk → Option (AExit × AVal × List ABlk)), evAppend real T t x y h' kk = (match (generalizing := false) y with
        | .nils => kk (.own (killD h' A).length) (killD h' A ++ [.row true et e xs])
        | y =>
          match asRo h' y with
          | none => none
          | some ⟨d, ys⟩ =>
            if hd : d = e then
              real.iff ((xs.length + ys.length) * T.bytes et ≤ room) inferInstance (kk (.own (killD h' A).length) (killD h' A ++ [.row true et e (xs ++ hd ▸ ys)])) none
            else none) := fun h' he kk => by
    unfold evAppend
    rw [hund]
    simp only
    rw [if_neg hbt, rw2 h' he]
    simp only
    rw [if_pos hc]
    cases y <;> rfl
  cases y <;> simp only [blkArg] at hy <;> cases hy
  · -- nils
    cases hk
    refine ⟨.row true et e xs, trivial, by rw [killD_len], rfl, fun h' he => ?_⟩
    rw [unf h' he]
    simp only [killD_len]
    rfl
  · -- ro
    rename_i d ys
    simp only [asRo] at hk
    split at hk
    · rename_i hd
      simp only [real] at hk
      split at hk
      · rename_i hrm
        cases hk
        refine ⟨.row true et e (xs ++ hd ▸ ys), trivial, by rw [killD_len], rfl, fun h' he => ?_⟩
        rw [unf h' he]
        simp only [asRo, killD_len, real]
        rw [dif_pos hd, if_pos hrm]
        rfl
      · cases hk
    · cases hk
  · -- own
    rename_i i
    simp only [asRo] at hk
    split at hk
    · cases hk
    · rename_i d ys hr
      split at hr
      · rename_i w2 t2 e2 xs2 hrr
        cases hr
        split at hk
        · rename_i hd
          simp only [real] at hk
          split at hk
          · rename_i hrm
            cases hk
            refine ⟨.row true et e (xs ++ hd ▸ ys), trivial, by rw [killD_len], rfl, fun h' he => ?_⟩
            rw [unf h' he]
            simp only [asRo, killD_len, real]
            rw [getD_of (he i (by simp)), hrr]
            simp only
            rw [dif_pos hd, if_pos hrm]
            rfl
          · cases hk
        · cases hk
      · cases hr
theorem over_all {β : Type} : ∀ (l vs : List β), vs.length = l.length → List.overAt l 0 vs = vs
  | l, [], h => by
    have : l = [] := List.eq_nil_of_length_eq_zero h.symm
    subst this; rfl
  | [], _ :: _, h => by simp at h
  | _ :: l, v :: vs, h => by
    show v :: List.overAt l 0 vs = _
    rw [over_all l vs (by simpa using h)]
theorem plain_peek {h : List ABlk} : ∀ (cs : List AVal), cs.all plainC = true → peekL (peek0 h) cs = some cs
  | [], _ => rfl
  | c :: cs, ha => by
    rw [List.all_cons, Bool.and_eq_true] at ha
    have e : peek0 h c = some c := by cases c <;> first | rfl | (cases ha.1)
    unfold peekL
    rw [e, plain_peek cs ha.2]
theorem plain_named : ∀ (cs : List AVal), cs.all plainC = true → cs.flatMap AVal.named0 = []
  | [], _ => rfl
  | c :: cs, ha => by
    rw [List.all_cons, Bool.and_eq_true] at ha
    have e : c.named0 = [] := by cases c <;> first | rfl | (cases ha.1)
    rw [List.flatMap_cons, e, plain_named cs ha.2]; rfl
theorem rowmk_spec {fs : FuncId → Option Fsp} {n : Nat} {op : Op} {ty : TypeId} {ρ : Operand → AVal} {h : List ABlk} {x : AExit} {v : AVal} {h1 : List ABlk} {F W : List Nat} (hr : isRowMk op = true) (hf : footOf fs true n ρ op = some (F, W)) (hk : evOpH real T env true op ty ρ h tripE = some (x, v, h1)) :
    ∃ A b, W = A ++ [n] ∧ (∀ i ∈ A, i ∈ F) ∧ n ∈ F ∧ RowMk F A h (fun h' => evOpH real T env true op ty ρ h' tripE) x v h1 b := by
  cases op
  case makeSlice t l c =>
    simp only [footOf, cond_true, Option.some.injEq, Prod.mk.injEq] at hf
    obtain ⟨rfl, rfl⟩ := hf
    obtain ⟨o, ho, e⟩ := make_shape (T := T) t (ρ l) (ρ c)
    have e' : ∀ h', evOpH real T env true (.makeSlice t l c) ty ρ h' tripE = o.bind fun b => tripE .normal (.own h'.length) (h' ++ [b]) := fun h' => e h' _
    rw [e'] at hk
    cases o with
    | none => cases hk
    | some b =>
      cases hk
      exact ⟨[], b, rfl, (fun i hi => by simp at hi), by simp, rfl, rfl, rfl, ho b rfl, fun h' _ => e' h'⟩
  case buildSlice t len parts =>
    simp only [footOf, Bool.true_and] at hf
    cases hc0 : ((len == 0 && parts.isEmpty) || (len == 1 && oneP ρ parts.toList)) with
    | false => rw [hc0] at hf; cases hf
    | true =>
    rw [hc0] at hf
    simp only [cond_true, Option.some.injEq, Prod.mk.injEq] at hf
    obtain ⟨rfl, rfl⟩ := hf
    cases hc : (len == 0 && parts.isEmpty) with
    | false =>
      rw [hc, Bool.false_or, Bool.and_eq_true, beq_iff_eq] at hc0
      obtain ⟨rfl, hone⟩ := hc0
      obtain ⟨y, hp, hpl⟩ : ∃ y, parts.toList = [(0, y)] ∧ (ρ y).cells.all plainC = true := by
        unfold oneP at hone
        split at hone
        · rename_i i y hl
          rw [Bool.and_eq_true, beq_iff_eq] at hone
          obtain ⟨rfl, h2⟩ := hone
          exact ⟨y, hl, h2⟩
        · cases hone
      simp only [evOpH] at hk
      split at hk
      case h_2 => cases hk
      rename_i et hund
      split at hk
      case h_2 => cases hk
      rename_i e z hsh hz
      split at hk
      case isFalse => cases hk
      rename_i hcc
      rw [hp] at hk
      simp only [List.map_cons, List.map_nil, List.replicate_one, List.flatten_cons, List.flatten_nil, List.append_nil, fillC, Nat.zero_mul, Nat.zero_add] at hk
      by_cases hq : (ρ y).cells.all AVal.scalar = true ∧ (ρ y).cells.length = T.size et ∧ (ρ y).cells.length ≤ z.cells.length
      case neg => rw [if_neg hq] at hk; cases hk
      rw [if_pos hq] at hk
      have hov : List.overAt z.cells 0 (ρ y).cells = (ρ y).cells := over_all _ _ (by rw [hq.2.1, hcc.2.2.2.1, hcc.2.1])
      simp only [hov, if_pos hq.1, plain_peek _ hpl, plain_named _ hpl, dedup, killAll] at hk
      cases hm : e.many 1 (ρ y).cells with
      | none => rw [hm] at hk; cases hk
      | some xs =>
        rw [hm] at hk
        cases hk
        refine ⟨[], _, rfl, (fun i hi => by simp at hi), by simp, rfl, rfl, rfl, trivial, fun h' _ => ?_⟩
        simp only [evOpH, hund, hsh, hz]
        rw [if_pos hcc, hp]
        simp only [List.map_cons, List.map_nil, List.replicate_one, List.flatten_cons, List.flatten_nil, List.append_nil, fillC, Nat.zero_mul, Nat.zero_add]
        rw [if_pos hq]
        simp only [hov, if_pos hq.1, plain_peek _ hpl, plain_named _ hpl, dedup, killAll, hm]
        rfl
    | true =>
      simp only [Bool.and_eq_true, beq_iff_eq, Array.isEmpty_iff] at hc
      obtain ⟨rfl, rfl⟩ := hc
      simp only [evOpH] at hk
      split at hk
      case h_2 => cases hk
      rename_i et hund
      split at hk
      case h_2 => cases hk
      rename_i e z hsh hz
      split at hk
      case isFalse => cases hk
      rename_i hcc
      simp only [List.replicate_zero, List.flatten_nil, List.map_nil, fillC, List.all_nil, if_true, peekL, List.flatMap_nil, dedup, killAll, Sh.many] at hk
      cases hk
      refine ⟨[], _, rfl, (fun i hi => by simp at hi), by simp, rfl, rfl, rfl, trivial, fun h' _ => ?_⟩
      simp only [evOpH, hund, hsh, hz]
      rw [if_pos hcc]
      simp only [List.replicate_zero, List.flatten_nil, List.map_nil, fillC, List.all_nil, if_true, peekL, List.flatMap_nil, dedup, killAll, Sh.many]
      rfl
  case call c =>
    obtain ⟨callee, args, ts⟩ := c
    cases callee with
    | value f => cases hr
    | invoke y m => cases hr
    | builtin b =>
      cases b <;> first | (cases hr; done) | skip
      simp only [footOf, cond_true] at hf
      split at hf
      case h_2 => cases hf
      rename_i ax ay ha
      split at hf
      case h_2 => cases hf
      rename_i A B hA hB
      cases hf
      simp only [evOpH, ha] at hk
      split at hk
      case h_2 => cases hk
      rename_i x1 y1 t u e1 ht
      cases e1
      split at hk
      case isFalse => cases hk
      rename_i htu
      have hx : x = .normal := by
        rw [evAppend_nat] at hk
        cases hq : evAppend real T t (ρ ax) (ρ ay) h (fun v h => some (v, h)) with
        | none => rw [hq] at hk; cases hk
        | some q => rw [hq] at hk; cases hk; rfl
      subst hx
      obtain ⟨b, b1, b2, b3, b4⟩ := append_shape hA hB hk
      refine ⟨A, b, rfl, fun i hi => by simp [hi], by simp, rfl, b2, b3, b1, fun h' he => ?_⟩
      simp only [evOpH, ha, ht]
      rw [if_pos htu]
      exact b4 h' fun i hi => he i (by simp only [List.mem_append] at hi ⊢; exact .inl hi)
  all_goals cases hr
theorem row_local {n : Nat} {op : Op} {ty : TypeId} {ρ : Operand → AVal} {h : List ABlk} {x : AExit} {v : AVal} {h1 : List ABlk} {F W : List Nat} {fs : FuncId → Option Fsp} (hr : isRowMk op = true) (hf : footOf fs true n ρ op = some (F, W)) (hk : evT T env true n op ty ρ h = some (x, v, h1)) :
    Local F W h h1 (evT T env true n op ty ρ) x v := by
  have ha : isAlloc true op = true := by cases op <;> first | rfl | exact hr
  have e0 : ∀ h', evT T env true n op ty ρ h' = evOpH real T env true op ty ρ h' fun x v h1 => relab n h' x v h1 tripE := fun h' => by
    unfold evT evD
    rw [ha]; rfl
  have e1 : ∀ h', evT T env true n op ty ρ h' = (evOpH real T env true op ty ρ h' tripE).bind fun p => relab n h' p.1 p.2.1 p.2.2 tripE := fun h' => by
    rw [e0, evOpH_row hr]
  rw [e1] at hk
  cases hq : evOpH real T env true op ty ρ h tripE with
  | none => rw [hq] at hk; cases hk
  | some p =>
    obtain ⟨x0, v0, h0⟩ := p
    obtain ⟨A, b, rfl, hAF, hnF, rm⟩ := rowmk_spec (fs := fs) hr hf hq
    rw [hq] at hk
    simp only [Option.bind_some] at hk
    have r1 := rm.ex; have r2 := rm.val; have r3 := rm.mem
    subst r1; subst r2; subst r3
    have at' : ∀ h' : List ABlk, h'[n]? = some .free → relab n h' .normal (.own h'.length) (killD h' A ++ [b]) tripE = some (.normal, .own n, (killD h' A).set n b) := fun h' hn => by
      unfold relab
      rw [hn]
      simp only
      rw [if_pos (by simp [killD_len])]
      have e2 : (killD h' A ++ [b]).take h'.length = killD h' A := by rw [← killD_len A h']; simp
      have e3 : (killD h' A ++ [b]).getD h'.length .dead = b := by rw [← killD_len A h']; simp
      rw [e2, e3]
      rfl
    have hn : h[n]? = some .free := by
      unfold relab at hk
      split at hk
      · assumption
      · cases hk
    rw [at' h hn] at hk
    cases hk
    have hlt : n < h.length := (List.getElem?_eq_some_iff.1 hn).1
    refine ⟨fun i hi => ?_, by simp [killD_len], fun i hi => ?_, fun h' he => ?_⟩
    · rcases List.mem_append.1 hi with hi | hi
      · exact hAF i hi
      · rw [List.mem_singleton] at hi; subst hi; exact hnF
    · rw [List.mem_append, List.mem_singleton] at hi
      rw [List.getElem?_set, if_neg fun e => hi (.inr e.symm), killD_off A h i fun e => hi (.inl e)]
    · have hn' : h'[n]? = some .free := (he n hnF).trans hn
      have hlt' : n < h'.length := (List.getElem?_eq_some_iff.1 hn').1
      refine ⟨(killD h' A).set n b, ?_, by simp [killD_len], fun i hi => ?_, fun i hi => ?_⟩
      · rw [e1, rm.all h' he]
        exact at' h' hn'
      · rw [List.getElem?_set, List.getElem?_set, killD_len, killD_len]
        by_cases hin : n = i
        · subst hin; rw [if_pos rfl, if_pos rfl, if_pos hlt, if_pos hlt']
        · rw [if_neg hin, if_neg hin]
          exact killD_same A i (he i (by
            rcases List.mem_append.1 hi with hi | hi
            · exact hAF i hi
            · rw [List.mem_singleton] at hi; exact absurd hi.symm hin))
      · rw [List.mem_append, List.mem_singleton] at hi
        rw [List.getElem?_set, if_neg fun e => hi (.inr e.symm), killD_off A h' i fun e => hi (.inl e)]
theorem evT_local (hE : EnvOk P env) {rp : Bool} {n : Nat} {op : Op} {ty : TypeId} {ρ : Operand → AVal} {h : List ABlk} {x : AExit} {v : AVal} {h1 : List ABlk} {F W : List Nat} (hf : footOf env.fs rp n ρ op = some (F, W)) (hk : evT T env rp n op ty ρ h = some (x, v, h1)) :
    Local F W h h1 (evT T env rp n op ty ρ) x v := by
  by_cases ha : isAlloc false op = true
  · obtain ⟨cs, rfl, rfl, rfl, hn, hall⟩ := evT_new ha hk
    have hFW : F = [n] ∧ W = [n] := by
      cases op <;> first | (cases ha; done) | (simp only [footOf, Option.some.injEq, Prod.mk.injEq] at hf; exact ⟨hf.1.symm, hf.2.symm⟩)
    obtain ⟨rfl, rfl⟩ := hFW
    have hlt : n < h.length := (List.getElem?_eq_some_iff.1 hn).1
    refine ⟨fun i hi => hi, by simp, fun i hi => by rw [List.getElem?_set, if_neg fun e => hi (by simp [e])], fun h' he => ?_⟩
    have hn' : h'[n]? = some .free := (he n (by simp)).trans hn
    have hlt' : n < h'.length := (List.getElem?_eq_some_iff.1 hn').1
    refine ⟨_, hall h' hn', by simp, fun i hi => ?_, fun i hi => by rw [List.getElem?_set, if_neg fun e => hi (by simp [e])]⟩
    simp only [List.mem_singleton] at hi
    subst hi
    rw [List.getElem?_set, List.getElem?_set, if_pos rfl, if_pos rfl, if_pos hlt, if_pos hlt']
  · by_cases hrow : (rp && isRowMk op) = true
    · rw [Bool.and_eq_true] at hrow
      obtain ⟨rfl, hrow⟩ := hrow
      exact row_local hrow hf hk
    have e0 : ∀ h', evT T env rp n op ty ρ h' = evOpH real T env true op ty ρ h' tripE := fun h' => by
      unfold evT evD
      have : isAlloc rp op = false := by
        have h1 : isAlloc false op = false := by simpa using ha
        have h2 : (rp && isRowMk op) = false := by simpa using hrow
        cases op <;> first | (cases h1; done) | exact h2
      rw [this]; rfl
    have pure : opE op = false → opR op = false → W = [] → Local F W h h1 (evT T env rp n op ty ρ) x v := fun p1 p2 p3 => by
      subst p3
      rw [e0] at hk
      have hh := evOpH_heap hE p1 (fun f args ts e => by subst e; cases p2) hk
      subst hh
      exact .same fun h' _ => by rw [e0]; exact evOpH_any p2 h' hk
    have memo : opE op = false → W = [] → (∀ f args ts, op = .call { callee := .value f, args, argTypes := ts } → ∃ g caps, ρ f = .fn g caps ∧ (env.fs g).isSome = true) → (∀ h' : List ABlk, (∀ i ∈ F, h'[i]? = h[i]?) → evOpH real T env true op ty ρ h' tripE = (evOpH real T env true op ty ρ h tripE).map fun p => (p.1, p.2.1, h')) → Local F W h h1 (evT T env rp n op ty ρ) x v := fun p1 p3 pc hp => by
      subst p3
      rw [e0] at hk
      have hh := evOpH_heap hE p1 pc hk
      subst hh
      exact .same fun h' he => by rw [e0, hp h' he, hk]; rfl
    cases op
    case store t a y =>
      have hf : blkRef (ρ a) = some F ∧ F = W := by
        simp only [footOf] at hf
        split at hf
        · rename_i l hl; cases hf; exact ⟨hl, rfl⟩
        · cases hf
      obtain ⟨hf1, hf2⟩ := hf
      subst hf2
      rw [e0] at hk
      simp only [evOpH] at hk
      rw [evStore_nat] at hk
      cases hst : evStore T t (ρ a) (ρ y) h some with
      | none => rw [hst] at hk; cases hk
      | some h2 =>
        rw [hst] at hk
        cases hk
        obtain ⟨q1, q2, q3⟩ := store_of hf1 hst
        refine ⟨fun i hi => hi, q1, q2, fun h' he => ?_⟩
        obtain ⟨h1', r1, r2, r3, r4⟩ := q3 h' he
        refine ⟨h1', ?_, r2, r3, r4⟩
        rw [e0]
        simp only [evOpH]
        rw [evStore_nat, r1]
        rfl
    case load t a =>
      have hf := onlyRd_spec hf
      refine memo rfl hf.2.symm (fun _ _ _ e => by cases e) fun h' he => ?_
      simp only [evOpH]
      rw [cellsAt_of hf.1 he]
      split
      · split <;> rfl
      · rfl
    case nilCheck a =>
      have hf := onlyRd_spec hf
      refine memo rfl hf.2.symm (fun _ _ _ e => by cases e) fun h' he => ?_
      simp only [evOpH]
      rw [live_of hf.1 he]
      cases (ρ a).livePtr h <;> rfl
    case fieldAddr t a f =>
      have hf := onlyRd_spec hf
      refine memo rfl hf.2.symm (fun _ _ _ e => by cases e) fun h' he => ?_
      simp only [evOpH]
      rw [fieldAddr_of hf.1 he, evFieldAddr_nat, evFieldAddr_nat (k := fun v => tripE .normal v h)]
      cases evFieldAddr T t (ρ a) f h some <;> rfl
    case indexAddr t a ix =>
      have hf := onlyRd_spec hf
      refine memo rfl hf.2.symm (fun _ _ _ e => by cases e) fun h' he => ?_
      simp only [evOpH]
      rw [indexAddr_of hf.1 he, evIndexAddr_nat, evIndexAddr_nat (k := fun v => tripE .normal v h)]
      cases evIndexAddr real T t (ρ a) (ρ ix) h some <;> rfl
    case slice t y lo hi mx =>
      cases hy : ρ y with
      | ro e xs =>
        simp only [footOf, hy, Foot.no, Prod.mk.injEq, Option.some.injEq] at hf
        refine memo rfl hf.2.symm (fun _ _ _ e => by cases e) fun h' he => ?_
        cases mx with
        | some m => rfl
        | none =>
          simp only [evOpH, evSlice, hy]
          split
          · unfold evCut
            split
            · split <;> first
                | rfl
                | (simp only [real_iff']; split <;> rfl)
            · rfl
          · rfl
      | _ => simp [footOf, hy] at hf
    case call c =>
      obtain ⟨callee, args, ts⟩ := c
      cases callee with
      | invoke y m => simp [footOf, opE, opR] at hf
      | value f =>
        cases hy : ρ f with
        | fn fid caps =>
          simp only [footOf, hy] at hf
          cases hfs : env.fs fid with
          | none => rw [hfs] at hf; cases hf
          | some S =>
          rw [hfs] at hf
          simp only [Prod.mk.injEq, Option.some.injEq] at hf
          obtain ⟨hf1, hf2⟩ := hf
          refine memo rfl hf2.symm (fun f' args' ts' e => ?_) fun h' he => ?_
          · cases e; exact ⟨fid, caps, hy, by rw [hfs]; rfl⟩
          have hS := hfs
          simp only [evOpH, hy, evCall, hfs, Bool.not_true, Bool.false_and, cond_false]
          · skip
            have hp : peekL (peekP h') (args.toList.map ρ ++ caps) = peekL (peekP h) (args.toList.map ρ ++ caps) := peekL_of _ fun v hv => peekP_of fun i hi => he i (by rw [← hf1]; exact List.mem_flatMap.2 ⟨v, hv, hi⟩)
            unfold evPure
            rw [hp]
            split
            · rfl
            · rename_i aw _
              rw [(hE.fs fid S hS).nat (AExit × AVal × List ABlk) aw, (hE.fs fid S hS).nat (AExit × AVal × List ABlk) aw]
              cases S AOut aw some with
              | none => rfl
              | some out =>
                simp only [Option.bind_some]
                cases out with
                | ret u =>
                  simp only
                  split
                  · rfl
                  · cases hn : ((args.toList.map ρ ++ caps).flatMap AVal.namedP).isEmpty
                    · rfl
                    · have := List.isEmpty_iff.1 hn
                      rw [this]
                      simp only [Bool.not_true, Bool.and_false, cond_false, killZ, killAll_nil]
                      rfl
                | pan u =>
                  simp only
                  cases (!u.flat2) <;> rfl
        | _ => simp [footOf, hy] at hf
      | builtin b =>
        cases b
        case len =>
          cases hl : args.toList with
          | nil => simp [footOf, hl] at hf
          | cons y r =>
            cases r with
            | cons _ _ => simp [footOf, hl] at hf
            | nil =>
              simp only [footOf, hl] at hf
              have hf := onlyRd_spec hf
              refine memo rfl hf.2.symm (fun _ _ _ e => by cases e) fun h' he => ?_
              simp only [evOpH, hl]
              cases ts.toList with
              | nil => rfl
              | cons t r =>
                cases r with
                | cons _ _ => rfl
                | nil =>
                  simp only
                  rw [len_of hf.1 he]
                  split
                  · split <;> rfl
                  · split <;> rfl
                  · rfl
        case min =>
          simp only [footOf, Foot.no, Prod.mk.injEq, Option.some.injEq] at hf
          refine memo rfl hf.2.symm (fun _ _ _ e => by cases e) fun h' he => ?_
          simp only [evOpH]
          split
          · split <;> rfl
          · rfl
        case max =>
          simp only [footOf, Foot.no, Prod.mk.injEq, Option.some.injEq] at hf
          refine memo rfl hf.2.symm (fun _ _ _ e => by cases e) fun h' he => ?_
          simp only [evOpH]
          split
          · split <;> rfl
          · rfl
        case append =>
          cases rp with
          | true => exact absurd rfl hrow
          | false => simp [footOf] at hf
        all_goals simp [footOf, opE, opR] at hf
    case alloc => exact absurd rfl ha
    case box => exact absurd rfl ha
    case makeSlice t l c =>
      cases rp with
      | true => exact absurd rfl hrow
      | false => simp [footOf] at hf
    case buildSlice t l c =>
      cases rp with
      | true => exact absurd rfl hrow
      | false => simp [footOf] at hf
    all_goals first
      | (simp [footOf, opE, opR] at hf; done)
      | (simp only [footOf, opE, opR, Foot.no, Bool.or_false, Bool.false_eq_true, if_false, Prod.mk.injEq, Option.some.injEq] at hf; exact pure rfl rfl hf.2.symm)
end
end Go.Proofs.YtnhlnagihokokaaGreat

namespace Go.Proofs.YtnhlnagihokokaaGreat
open Go.RowKit
theorem get_put {s : AS} {dst : Option Nat} {v : AVal} {d : Nat} (h : dst ≠ some d) : (s.put dst v).get d = s.get d := by
  cases dst with
  | none => rfl
  | some e =>
    have : e ≠ d := fun e' => h (by rw [e'])
    simp only [AS.get, AS.put, List.getD_eq_getElem?_getD, List.getElem?_set, if_neg this]
section
variable (T : Tab) (env : Env) (ops : Array Oper)
def outD (n : Nat) (o : Oper) (s : AS) : Option (AExit × AVal × List ABlk) :=
  match o.guard with
  | none => evT T env (rpOf ops.toList) n o.op o.type s.ev s.heap
  | some (j, want) =>
    match (ops[j]?).bind (·.dst) with
    | none => none
    | some d =>
      match s.get d with
      | .bool b => if b = want then evT T env (rpOf ops.toList) n o.op o.type s.ev s.heap else some (.normal, .undef, s.heap)
      | .undef => some (.normal, .undef, s.heap)
      | _ => none
def footD (n : Nat) (o : Oper) (s : AS) : Foot :=
  match o.guard with
  | none => footOf env.fs (rpOf ops.toList) n s.ev o.op
  | some (j, want) =>
    match (ops[j]?).bind (·.dst) with
    | none => Foot.no
    | some d =>
      match s.get d with
      | .bool b => if b = want then footOf env.fs (rpOf ops.toList) n s.ev o.op else Foot.no
      | _ => Foot.no
def appD (o : Oper) (s : AS) (x : AExit) (v : AVal) (h : List ABlk) : AS :=
  match x with
  | .normal => ({ s with heap := h } : AS).put o.dst v
  | _ => { s with heap := h }
abbrev DSt := AS × Option AVal
def panD (x : AExit) (p : Option AVal) : Option (Option AVal) :=
  match x with
  | .normal => some p
  | .pan u => match p with
    | none => some (some u)
    | some u' => if samePan u' u = true then some p else none
  | _ => none
def isPan : AExit → Bool
  | .pan _ => true
  | _ => false
abbrev En := Nat × Foot × Bool
def stepE (base : Nat) (e : En) (d : DSt) : Option DSt :=
  match ops[e.1]? with
  | none => none
  | some o =>
    if footD env ops (placeOf base ops.toList e.1) o d.1 = e.2.1 then
      (outD T env ops (placeOf base ops.toList e.1) o d.1).bind fun q => if isPan q.1 = e.2.2 then (panD q.1 d.2).map fun p => (appD o d.1 q.1 q.2.1 q.2.2, p) else none
    else none
def foldE (base : Nat) : List En → DSt → Option DSt
  | [], d => some d
  | e :: r, d => (stepE T env ops base e d).bind (foldE base r)
end
section
variable {P : Program} {T : Tab} {env : Env} {ops : Array Oper}
theorem appD_heap (o : Oper) (s : AS) (x : AExit) (v : AVal) (h : List ABlk) : (appD o s x v h).heap = h := by
  cases x with
  | normal => exact put_heap _ _ _
  | _ => rfl
theorem outD_congr {n : Nat} {o : Oper} {s s' : AS} (h : ∀ d ∈ o.looksAt ops, s'.get d = s.get d) (hh : s'.heap = s.heap) : outD T env ops n o s' = outD T env ops n o s := by
  unfold outD
  have e : evT T env (rpOf ops.toList) n o.op o.type s'.ev s'.heap = evT T env (rpOf ops.toList) n o.op o.type s.ev s.heap := by
    unfold evT evD
    rw [hh, evOpH_congr true o.op o.type s.ev s'.ev _ _ (ev_same h), evOpH_congr true o.op o.type s.ev s'.ev _ _ (ev_same h)]
  rw [e]
  cases hg : o.guard with
  | none => rfl
  | some jw =>
    obtain ⟨j, want⟩ := jw
    simp only
    cases hd : (ops[j]?).bind (·.dst) with
    | none => rfl
    | some d =>
      simp only
      rw [h d (by simp [Oper.looksAt, hg, hd]), hh]
theorem footOf_congr {fs : FuncId → Option Fsp} {rp : Bool} {n : Nat} {op : Op} {ρ ρ' : Operand → AVal} (he : ∀ x ∈ op.operands.toList, ρ' x = ρ x) : footOf fs rp n ρ' op = footOf fs rp n ρ op := by
  have hl : ∀ (l : List Operand), (∀ x ∈ l, ρ' x = ρ x) → l.map ρ' = l.map ρ := fun l hl => List.map_congr_left hl
  cases op
  case store t a y => simp only [footOf, he a (by simp [Op.operands])]
  case load t a => simp only [footOf, he a (by simp [Op.operands])]
  case nilCheck a => simp only [footOf, he a (by simp [Op.operands])]
  case fieldAddr t a f => simp only [footOf, he a (by simp [Op.operands])]
  case indexAddr t a ix => simp only [footOf, he a (by simp [Op.operands])]
  case slice t x lo hi mx => simp only [footOf, he x (by simp [Op.operands])]
  case buildSlice t len parts =>
    have h1 : oneP ρ' parts.toList = oneP ρ parts.toList := by
      have hx : ∀ p ∈ parts.toList, ρ' p.2 = ρ p.2 := fun p hp => he p.2 (by simp [Op.operands]; exact ⟨p.1, by simpa using hp⟩)
      generalize parts.toList = l at hx
      unfold oneP
      split
      · rename_i i x
        rw [hx (i, x) (by simp)]
      · rfl
    simp only [footOf, h1]
  case call c =>
    obtain ⟨callee, args, ts⟩ := c
    cases callee with
    | value f =>
      have hf := he f (by simp [Op.operands, Call.operands])
      have ha := hl args.toList fun x hx => he x (by simp [Op.operands, Call.operands]; exact .inr (by simpa using hx))
      simp only [footOf, hf, ha]
    | invoke x m => rfl
    | builtin b =>
      have ha : ∀ x ∈ args.toList, ρ' x = ρ x := fun x hx => he x (by simp [Op.operands, Call.operands]; simpa using hx)
      cases b
      case len =>
        simp only [footOf]
        split
        · rename_i x h1
          rw [ha x (by rw [h1]; simp)]
        · rfl
      case append =>
        simp only [footOf]
        cases rp
        · rfl
        · simp only [cond_true]
          split
          · rename_i x y h1
            rw [ha x (by rw [h1]; simp), ha y (by rw [h1]; simp)]
          · rfl
      all_goals rfl
  all_goals rfl
theorem footD_congr {n : Nat} {o : Oper} {s s' : AS} (h : ∀ d ∈ o.looksAt ops, s'.get d = s.get d) : footD env ops n o s' = footD env ops n o s := by
  unfold footD
  rw [footOf_congr (ev_same h)]
  cases hg : o.guard with
  | none => rfl
  | some jw =>
    obtain ⟨j, want⟩ := jw
    simp only
    cases hd : (ops[j]?).bind (·.dst) with
    | none => rfl
    | some d =>
      simp only
      rw [h d (by simp [Oper.looksAt, hg, hd])]
theorem outD_local (hE : EnvOk P env) {n : Nat} {o : Oper} {s : AS} {x : AExit} {v : AVal} {h1 : List ABlk} {F W : List Nat} (hf : footD env ops n o s = some (F, W)) (hk : outD T env ops n o s = some (x, v, h1)) :
    Local F W s.heap h1 (fun h' => outD T env ops n o { s with heap := h' }) x v := by
  have hev : ∀ h', ({ s with heap := h' } : AS).ev = s.ev := fun h' => by funext y; cases y <;> rfl
  have pass : outD T env ops n o s = some (.normal, .undef, s.heap) → footD env ops n o s = Foot.no → (∀ h', outD T env ops n o { s with heap := h' } = some (.normal, .undef, h')) → Local F W s.heap h1 (fun h' => outD T env ops n o { s with heap := h' }) x v := fun p1 p2 p3 => by
    rw [p1] at hk
    rw [p2] at hf
    simp only [Foot.no, Prod.mk.injEq, Option.some.injEq] at hf
    obtain ⟨rfl, rfl⟩ := hf
    cases hk
    exact .same fun h' _ => p3 h'
  have go : footOf env.fs (rpOf ops.toList) n s.ev o.op = some (F, W) → evT T env (rpOf ops.toList) n o.op o.type s.ev s.heap = some (x, v, h1) → (∀ h', outD T env ops n o { s with heap := h' } = evT T env (rpOf ops.toList) n o.op o.type s.ev h') → Local F W s.heap h1 (fun h' => outD T env ops n o { s with heap := h' }) x v := fun p1 p2 p3 => by
    have l := evT_local hE p1 p2
    exact ⟨l.sub, l.len, l.off, fun h' he => by rw [p3 h']; exact l.all h' he⟩
  cases hg : o.guard with
  | none =>
    have e : ∀ s', outD T env ops n o s' = evT T env (rpOf ops.toList) n o.op o.type s'.ev s'.heap := fun s' => by simp only [outD, hg]
    rw [e] at hk
    exact go (by simpa only [footD, hg] using hf) hk fun h' => by rw [e, hev]
  | some jw =>
    obtain ⟨j, want⟩ := jw
    cases hd : (ops[j]?).bind (·.dst) with
    | none => simp only [outD, hg, hd] at hk; cases hk
    | some d =>
      have hget : ∀ h', ({ s with heap := h' } : AS).get d = s.get d := fun h' => rfl
      cases hs : s.get d with
      | bool b =>
        by_cases hb : b = want
        · have e : ∀ h', outD T env ops n o { s with heap := h' } = evT T env (rpOf ops.toList) n o.op o.type s.ev h' := fun h' => by simp only [outD, hg, hd, hget, hs, hb, if_true, hev]
          exact go (by simpa only [footD, hg, hd, hs, hb, if_true] using hf) (by rw [← e]; exact hk) e
        · exact pass (by simp [outD, hg, hd, hs, hb]) (by simp [footD, hg, hd, hs, hb]) fun h' => by simp [outD, hg, hd, hget, hs, hb]
      | undef => exact pass (by simp [outD, hg, hd, hs]) (by simp [footD, hg, hd, hs]) fun h' => by simp [outD, hg, hd, hget, hs]
      | _ => simp [outD, hg, hd, hs] at hk
theorem app_get {o : Oper} {s : AS} {x : AExit} {v : AVal} {h : List ABlk} {d : Nat} (hd : o.dst ≠ some d) : (appD o s x v h).get d = s.get d := by
  cases x with
  | normal => exact get_put hd
  | _ => rfl
theorem app_two {x y : Oper} {s : AS} {e1 e2 : AExit} {u v : AVal} {h1 h2 h3 : List ABlk} (hne : ∀ d, x.dst = some d → y.dst ≠ some d) :
    appD y (appD x s e1 u h1) e2 v h2 = appD x (appD y s e2 v h3) e1 u h2 := by
  have two : ({ (({ s with heap := h1 } : AS).put x.dst u) with heap := h2 } : AS).put y.dst v = ({ (({ s with heap := h3 } : AS).put y.dst v) with heap := h2 } : AS).put x.dst u := by
    cases hx : x.dst with
    | none => cases y.dst <;> rfl
    | some d =>
      cases hy : y.dst with
      | none => rfl
      | some e =>
        have : d ≠ e := fun e' => hne d hx (by rw [e']; exact hy)
        simp only [AS.put]
        rw [List.set_comm _ _ this]
  have one : ∀ (o : Oper) (u : AVal) (h h' : List ABlk), ({ (({ s with heap := h } : AS).put o.dst u) with heap := h' } : AS) = ({ s with heap := h' } : AS).put o.dst u := fun o u h h' => by cases o.dst <;> rfl
  cases e1 <;> cases e2 <;> simp only [appD] <;> first
    | exact two
    | exact one _ _ _ _
    | exact (one _ _ _ _).symm
    | rfl
theorem out_swap (hE : EnvOk P env) {nx ny : Nat} {x y : Oper} {s : AS} {ex ey : AExit} {u v : AVal} {hx hy : List ABlk} (hap : Oper.apart ops x y = true) (hf : apartF (footD env ops nx x s) (footD env ops ny y s) = true)
    (h1 : outD T env ops nx x s = some (ex, u, hx)) (h2 : outD T env ops ny y (appD x s ex u hx) = some (ey, v, hy)) :
    ∃ hy', outD T env ops ny y s = some (ey, v, hy') ∧ outD T env ops nx x (appD y s ey v hy') = some (ex, u, hy) := by
  obtain ⟨a1, a2, a3⟩ := Oper.apart_spec hap
  have c1 : ∀ d ∈ y.looksAt ops, (appD x s ex u hx).get d = s.get d := fun d hd => app_get fun e => a1 d e hd
  have c2 : ∀ hy', ∀ d ∈ x.looksAt ops, (appD y s ey v hy').get d = s.get d := fun hy' d hd => app_get fun e => a3 d e hd
  have h2' : outD T env ops ny y { s with heap := hx } = some (ey, v, hy) := by
    rw [← h2]
    exact (outD_congr (s := { s with heap := hx }) (s' := appD x s ex u hx) (fun d hd => c1 d hd) (appD_heap _ _ _ _ _)).symm
  have xat : ∀ hy', outD T env ops nx x (appD y s ey v hy') = outD T env ops nx x { s with heap := hy' } := fun hy' => outD_congr (fun d hd => c2 hy' d hd) (appD_heap _ _ _ _ _)
  have fy0 : footD env ops ny y { s with heap := hx } = footD env ops ny y s := footD_congr fun _ _ => rfl
  have fin : ∀ hy', outD T env ops ny y s = some (ey, v, hy') → outD T env ops nx x { s with heap := hy' } = some (ex, u, hy) → ∃ hy', outD T env ops ny y s = some (ey, v, hy') ∧ outD T env ops nx x (appD y s ey v hy') = some (ex, u, hy) :=
    fun hy' q1 q2 => ⟨hy', q1, by rw [xat]; exact q2⟩
  have emp : ∀ {F W : List Nat}, F.isEmpty = true → (∀ i ∈ W, i ∈ F) → W = [] := fun {F W} h1 h2 => by
    have := List.isEmpty_iff.1 h1
    subst this
    exact List.eq_nil_iff_forall_not_mem.2 fun i hi => by have := h2 i hi; cases this
  cases hfx : footD env ops nx x s with
  | none =>
    cases hfy : footD env ops ny y s with
    | none => rw [hfx, hfy] at hf; cases hf
    | some q =>
      obtain ⟨Fy, Wy⟩ := q
      rw [hfx, hfy] at hf
      have ly := outD_local (s := { s with heap := hx }) hE (by rw [fy0, hfy]) h2'
      have e1 := emp hf ly.sub
      have e2 := List.isEmpty_iff.1 (show Fy.isEmpty = true from hf)
      subst e1; subst e2
      obtain ⟨hy', q1, q2, _, q4⟩ := ly.all s.heap fun i hi => by simp at hi
      have e3 : hy' = s.heap := List.ext_getElem? fun i => q4 i (by simp)
      have e4 : hy = hx := List.ext_getElem? fun i => ly.off i (by simp)
      subst e3; subst e4
      exact fin _ q1 h1
  | some p =>
    obtain ⟨Fx, Wx⟩ := p
    have lx := outD_local hE hfx h1
    cases hfy : footD env ops ny y s with
    | none =>
      rw [hfx, hfy] at hf
      have e1 := emp hf lx.sub
      have e2 := List.isEmpty_iff.1 (show Fx.isEmpty = true from hf)
      subst e1; subst e2
      have e3 : hx = s.heap := List.ext_getElem? fun i => lx.off i (by simp)
      subst e3
      obtain ⟨hx', q1, q2, _, q4⟩ := lx.all hy fun i hi => by simp at hi
      have e4 : hx' = hy := List.ext_getElem? fun i => q4 i (by simp)
      subst e4
      exact fin _ h2' q1
    | some q =>
      obtain ⟨Fy, Wy⟩ := q
      rw [hfx, hfy] at hf
      have ly := outD_local (s := { s with heap := hx }) hE (by rw [fy0, hfy]) h2'
      simp only [apartF, Bool.and_eq_true, List.all_eq_true, Bool.not_eq_true', List.contains_eq_mem, decide_eq_false_iff_not] at hf
      obtain ⟨o1, o2⟩ := hf
      obtain ⟨hy', q1, q2, q3, q4⟩ := ly.all s.heap fun i hi => (lx.off i fun h => o1 i h hi).symm
      obtain ⟨hx', r1, r2, r3, r4⟩ := lx.all hy' fun i hi => q4 i fun h => o2 i h hi
      have e : hx' = hy := List.ext_getElem? fun i => by
        by_cases h1 : i ∈ Wx
        · rw [r3 i h1]
          exact (ly.off i fun h => o2 i h (lx.sub i h1)).symm
        · rw [r4 i h1]
          by_cases h2 : i ∈ Wy
          · exact q3 i h2
          · rw [q4 i h2]
            exact ((ly.off i h2).trans (lx.off i h1)).symm
      subst e
      exact fin _ q1 r1
theorem samePan_eq {u v : AVal} (h : samePan u v = true) : u = v := by
  unfold samePan at h
  split at h
  · obtain ⟨h1, h2, h3⟩ := of_decide_eq_true h
    rw [h1, h2, h3]
  · cases h
theorem panD_swap {x y : AExit} {p p1 p2 : Option AVal} (h1 : panD x p = some p1) (h2 : panD y p1 = some p2) : ∃ p3, panD y p = some p3 ∧ panD x p3 = some p2 := by
  cases x <;> simp only [panD] at h1 <;> first | cases h1 | skip
  · exact ⟨p2, h2, rfl⟩
  · rename_i u
    split at h1
    · cases h1
      cases y <;> simp only [panD] at h2 <;> first | cases h2 | skip
      · exact ⟨none, rfl, rfl⟩
      · rename_i v
        split at h2
        · rename_i hs
          cases h2
          have e := samePan_eq hs
          subst e
          exact ⟨some u, rfl, by simp only [panD]; rw [if_pos hs]⟩
        · cases h2
    · rename_i u'
      split at h1
      · rename_i hs
        cases h1
        refine ⟨p2, h2, ?_⟩
        have : p2 = some u' := by
          cases y <;> simp only [panD] at h2 <;> first | (cases h2; rfl) | cases h2 | skip
          split at h2
          · cases h2; rfl
          · cases h2
        subst this
        simp only [panD]
        rw [if_pos hs]
      · cases h1
theorem stepE_some {base : Nat} {e : En} {d d' : DSt} (h : stepE T env ops base e d = some d') :
    ∃ o x v h1 p, ops[e.1]? = some o ∧ footD env ops (placeOf base ops.toList e.1) o d.1 = e.2.1 ∧ outD T env ops (placeOf base ops.toList e.1) o d.1 = some (x, v, h1) ∧ (isPan x = e.2.2 ∧ panD x d.2 = some p) ∧ d' = (appD o d.1 x v h1, p) := by
  unfold stepE at h
  split at h
  · cases h
  · rename_i o ho
    split at h
    · rename_i hf
      cases hq : outD T env ops (placeOf base ops.toList e.1) o d.1 with
      | none => rw [hq] at h; cases h
      | some q =>
        obtain ⟨x, v, h1⟩ := q
        rw [hq] at h
        simp only [Option.bind_some] at h
        split at h
        · rename_i hpn
          cases hp : panD x d.2 with
          | none => rw [hp] at h; cases h
          | some p =>
            rw [hp] at h
            cases h
            exact ⟨o, x, v, h1, p, ho, hf, hq, ⟨hpn, hp⟩, rfl⟩
        · cases h
    · cases h
theorem stepE_of {base : Nat} {e : En} {d : DSt} {o : Oper} {x : AExit} {v : AVal} {h1 : List ABlk} {p : Option AVal} (ho : ops[e.1]? = some o) (hf : footD env ops (placeOf base ops.toList e.1) o d.1 = e.2.1) (hq : outD T env ops (placeOf base ops.toList e.1) o d.1 = some (x, v, h1)) (hp : isPan x = e.2.2 ∧ panD x d.2 = some p) :
    stepE T env ops base e d = some (appD o d.1 x v h1, p) := by
  unfold stepE
  rw [ho]
  simp only
  rw [if_pos hf, hq]
  simp only [Option.bind_some]
  rw [if_pos hp.1, hp.2]
  rfl
def IndE (ops : Array Oper) (a b : En) : Prop := ∃ x y, ops[a.1]? = some x ∧ ops[b.1]? = some y ∧ indepB ops x a.2.1 y b.2.1 = true
theorem step_swap (hE : EnvOk P env) {base : Nat} {a b : En} {d d1 d2 : DSt} (hi : IndE ops a b) (h1 : stepE T env ops base a d = some d1) (h2 : stepE T env ops base b d1 = some d2) :
    ∃ d3, stepE T env ops base b d = some d3 ∧ stepE T env ops base a d3 = some d2 := by
  obtain ⟨x, y, hx, hy, hap⟩ := hi
  simp only [indepB, Bool.and_eq_true] at hap
  obtain ⟨hap, hf⟩ := hap
  obtain ⟨x', ex, u, h3, p1, i1, i2, i3, i4, rfl⟩ := stepE_some h1
  rw [hx] at i1; cases i1
  obtain ⟨y', ey, v, h4, p2, j1, j2, j3, j4, rfl⟩ := stepE_some h2
  rw [hy] at j1; cases j1
  obtain ⟨a1, a2, a3⟩ := Oper.apart_spec hap
  have c1 : ∀ q ∈ y.looksAt ops, (appD x d.1 ex u h3).get q = d.1.get q := fun q hq => app_get fun e => a1 q e hq
  have fy : footD env ops (placeOf base ops.toList b.1) y d.1 = b.2.1 := by rw [← j2]; exact (footD_congr c1).symm
  obtain ⟨h5, k1, k2⟩ := out_swap hE hap (by rw [i2, fy]; exact hf) i3 j3
  obtain ⟨p3, l1, l2⟩ := panD_swap i4.2 j4.2
  refine ⟨_, stepE_of hy fy k1 ⟨j4.1, l1⟩, ?_⟩
  rw [stepE_of (d := (appD y d.1 ey v h5, p3)) hx (by rw [← i2]; exact footD_congr fun q hq => app_get fun e => a3 q e hq) k2 ⟨i4.1, l2⟩]
  rw [app_two (h3 := h5) a2]
theorem fold_front (hE : EnvOk P env) {base : Nat} {e : En} : ∀ (pre post : List En) (d d' : DSt), (∀ a ∈ pre, IndE ops a e) → foldE T env ops base (pre ++ e :: post) d = some d' →
    ∃ t, stepE T env ops base e d = some t ∧ foldE T env ops base (pre ++ post) t = some d'
  | [], post, d, d', _, h => by
    simp only [List.nil_append, foldE] at h
    cases hs : stepE T env ops base e d with
    | none => rw [hs] at h; cases h
    | some t => rw [hs] at h; exact ⟨t, rfl, h⟩
  | a :: pre, post, d, d', hi, h => by
    simp only [List.cons_append, foldE] at h
    cases hs : stepE T env ops base a d with
    | none => rw [hs] at h; cases h
    | some t =>
      rw [hs] at h
      obtain ⟨t1, h1, h2⟩ := fold_front hE pre post t d' (fun b hb => hi b (List.mem_cons_of_mem _ hb)) h
      obtain ⟨t2, h3, h4⟩ := step_swap hE (hi a (by simp)) hs h1
      refine ⟨t2, h3, ?_⟩
      simp only [List.cons_append, foldE]
      rw [h4]
      exact h2
theorem panD_keep {x : AExit} {p p1 : Option AVal} {q : AVal} (h : panD x p = some p1) (hp : p = some q) : p1 = some q := by
  subst hp
  cases x <;> simp only [panD] at h <;> first | (cases h; rfl) | cases h | skip
  split at h
  · cases h; rfl
  · cases h
theorem foldE_keep {base : Nat} {q : AVal} : ∀ (l : List En) (d d' : DSt), foldE T env ops base l d = some d' → d.2 = some q → d'.2 = some q
  | [], d, d', h, hp => by cases h; exact hp
  | e :: r, d, d', h, hp => by
    simp only [foldE] at h
    cases hs : stepE T env ops base e d with
    | none => rw [hs] at h; cases h
    | some t =>
      rw [hs] at h
      obtain ⟨o, x, v, h1, p, _, _, _, i4, rfl⟩ := stepE_some hs
      exact foldE_keep r _ d' h (panD_keep i4.2 hp)
end
end Go.Proofs.YtnhlnagihokokaaGreat
