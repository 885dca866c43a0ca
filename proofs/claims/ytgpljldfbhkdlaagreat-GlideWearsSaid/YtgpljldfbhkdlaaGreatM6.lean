/- Parts of the proof, in build order. -/
import Derived.Test.YtgpljldfbhkdlaaGreatM5
import Derived.Test.YtgpljldfbhkdlaaGreatProg
import Derived.WalkKit
namespace Go.Proofs.YtgpljldfbhkdlaaGreat
open Go.RowKit
inductive Sm : AVal → Prop where
  | ro (e : Sh) (xs : List e.ty) : xs.length ≤ maxLen → (∀ (n : Nat) x (j : Nat) c, xs[n]? = some x → (e.cells x)[j]? = some c → Sm c) → Sm (.ro e xs)
  | agg (cs : List AVal) : (∀ (j : Nat) c, cs[j]? = some c → Sm c) → Sm (.agg cs)
  | rp (cs : List AVal) : (∀ (j : Nat) c, cs[j]? = some c → Sm c) → Sm (.rp cs)
  | fn (f : FuncId) (cs : List AVal) : (∀ (j : Nat) c, cs[j]? = some c → Sm c) → Sm (.fn f cs)
  | other (v : AVal) : (match v with | .ro _ _ | .agg _ | .rp _ | .fn _ _ => False | _ => True) → Sm v
theorem Rep.sm {h g w} {v : AVal} {x : Value} (r : Rep h g w v x) : Sm v := by
  induction r with
  | agg cs arr hl _ ih => exact .agg cs fun j c hc => ih j c _ hc (Array.getElem?_eq_getElem (by have := (List.getElem?_eq_some_iff.1 hc).1; omega))
  | fn f cs arr hl _ ih => exact .fn f cs fun j c hc => ih j c _ hc (Array.getElem?_eq_getElem (by have := (List.getElem?_eq_some_iff.1 hc).1; omega))
  | ro0 e p c hc hc' => exact .ro e [] (Nat.zero_le _) fun n x j c hn => by simp at hn
  | ro1 e xs b o c us h0 h1 h2 hm hc _ ih => exact .ro e xs (Nat.le_trans h1 h2) fun n x j cc hn hj => ih n x j cc hn hj
  | rp cs b o us hm hc _ ih => exact .rp cs fun j c hj => ih j c hj
  | _ => exact .other _ trivial
theorem Sm.len {e : Sh} {xs : List e.ty} (h : Sm (.ro e xs)) : xs.length ≤ maxLen := by
  cases h with
  | ro _ _ h1 _ => exact h1
  | other _ h => cases h
def toFsp (F : List AVal → Option AOut) : Fsp := fun _ args k =>
  match F args with
  | some o => k o
  | none => none
theorem toFsp_nat (F : List AVal → Option AOut) (α : Type) (args : List AVal) (k : AOut → Option α) : toFsp F α args k = (toFsp F AOut args some).bind k := by
  unfold toFsp
  cases F args <;> rfl
theorem toFsp_some {F : List AVal → Option AOut} {args : List AVal} {out : AOut} (h : toFsp F AOut args some = some out) : F args = some out := by
  unfold toFsp at h
  cases hF : F args with
  | none => rw [hF] at h; cases h
  | some o => rw [hF] at h; exact h
section
variable {P : Program} {T : Tab} {env : Env}
theorem fsp_of (hm : P.follows .mixedOrders = true) (hT : TabOk P T) (hE : EnvOk P env) {f : FuncId} {fn : Func} (hf : P.funcs[f]? = some fn) (hen : ∀ args w, (callFunc f args).run P w = .ok (.enter f args) w)
    {F : List AVal → Option AOut} (hF : ∀ args out, (∀ c ∈ args, Sm c) → F args = some out → ∃ N, evFn real T env N fn AOut args some = some out) : FspOk P f (toFsp F) where
  enter := hen
  nat := toFsp_nat F
  calls := fun args out hout M w cargs hM hl hr => by
    have hsm : ∀ c ∈ args, Sm c := fun c hc => by
      obtain ⟨j, hj, rfl⟩ := List.mem_iff_getElem.1 hc
      exact (hr j _ _ (List.getElem?_eq_getElem hj) (Array.getElem?_eq_getElem (by omega))).sm
    obtain ⟨N, hN⟩ := hF args out hsm (toFsp_some hout)
    exact (fn_ok hm hT hE N hf hen).calls args out hN M w cargs hM hl hr
def envF (fs : FuncId → Option Fsp) : Env := ⟨fs, fun _ => false, fun _ _ _ _ _ => none⟩
theorem cv_none : CvOk P fun _ _ _ _ _ => none := ⟨fun _ _ _ _ _ => rfl, fun _ _ _ _ _ _ hk => by cases hk⟩
theorem env_nil : EnvOk P (envF fun _ => none) := ⟨fun f S h => (by cases h), cv_none⟩
theorem env_cons {fs : FuncId → Option Fsp} {f : FuncId} {S : Fsp} (h : FspOk P f S) (hE : EnvOk P (envF fs)) : EnvOk P (envF fun g => if g = f then some S else fs g) := ⟨fun g S' hg => by
  simp only [envF] at hg
  split at hg
  · rename_i e
    cases hg; subst e; exact h
  · exact hE.fs g S' hg, cv_none⟩
end
theorem iterL_count {σ α : Type} {f : σ → Option (LRes σ α)} (st : Nat → σ) {R : Option (LRes σ α)} (hR : ∀ y, R ≠ some (.cont y)) (n : Nat) (h : ∀ i, i < n → f (st i) = some (.cont (st (i + 1)))) (hend : f (st n) = R) :
    ∀ (m : Nat), m ≤ n → ∀ N, n - m < N → iterL N f (st m) = R := by
  intro m hm N
  induction N generalizing m with
  | zero => intro h; omega
  | succ N ih =>
    intro hN
    simp only [iterL]
    rcases Nat.lt_or_ge m n with hlt | hge
    · rw [h m hlt]
      exact ih (m + 1) hlt (by omega)
    · have : m = n := by omega
      subst this
      rw [hend]
      cases R with
      | none => rfl
      | some r =>
        cases r with
        | cont y => exact absurd rfl (hR y)
        | _ => rfl
theorem iterL_any {σ α : Type} {f : σ → Option (LRes σ α)} (st : Nat → σ) (p : Nat → Bool) {R E : Option (LRes σ α)} (hR : ∀ y, R ≠ some (.cont y)) (hE : ∀ y, E ≠ some (.cont y)) (n : Nat) (h : ∀ i, i < n → f (st i) = bif p i then R else some (.cont (st (i + 1)))) (hend : f (st n) = E) :
    iterL (n + 1) f (st 0) = bif (List.range n).any p then R else E := by
  have stop : ∀ (Z : Option (LRes σ α)), (∀ y, Z ≠ some (.cont y)) → ∀ N x, f x = Z → iterL (N + 1) f x = Z := fun Z hZ N x hx => by
    simp only [iterL, hx]
  have key : ∀ k, k ≤ n → iterL (k + 1) f (st (n - k)) = bif (List.range' (n - k) k).any p then R else E := fun k => by
    induction k with
    | zero => intro _; exact stop E hE 0 _ hend
    | succ k ih =>
      intro hk
      have e : n - k = n - (k + 1) + 1 := by omega
      have hf := h (n - (k + 1)) (by omega)
      rw [List.range'_succ, List.any_cons]
      cases hp : p (n - (k + 1))
      · rw [hp] at hf
        have := ih (by omega)
        rw [e] at this
        rw [Bool.false_or, ← this]
        conv => lhs; unfold iterL
        rw [hf]
        rfl
      · rw [hp] at hf
        exact stop R hR _ _ hf
  have := key n (Nat.le_refl _)
  rw [Nat.sub_self] at this
  rw [this, List.range_eq_range']
theorem iterL_find {σ α : Type} {f : σ → Option (LRes σ α)} (st : Nat → σ) (p : Nat → Bool) {R : Nat → Option (LRes σ α)} {E : Option (LRes σ α)} (hR : ∀ i y, R i ≠ some (.cont y)) (hE : ∀ y, E ≠ some (.cont y)) (n : Nat) (h : ∀ i, i < n → f (st i) = bif p i then R i else some (.cont (st (i + 1)))) (hend : f (st n) = E) :
    iterL (n + 1) f (st 0) = match (List.range n).find? p with | some i => R i | none => E := by
  have stop : ∀ (Z : Option (LRes σ α)), (∀ y, Z ≠ some (.cont y)) → ∀ N x, f x = Z → iterL (N + 1) f x = Z := fun Z hZ N x hx => by
    simp only [iterL, hx]
  have key : ∀ k, k ≤ n → iterL (k + 1) f (st (n - k)) = match (List.range' (n - k) k).find? p with | some i => R i | none => E := fun k => by
    induction k with
    | zero => intro _; exact stop E hE 0 _ hend
    | succ k ih =>
      intro hk
      have e : n - k = n - (k + 1) + 1 := by omega
      have hf := h (n - (k + 1)) (by omega)
      rw [List.range'_succ, List.find?_cons]
      cases hp : p (n - (k + 1))
      · rw [hp] at hf
        have := ih (by omega)
        rw [e] at this
        simp only
        rw [← this]
        conv => lhs; unfold iterL
        rw [hf]
        rfl
      · rw [hp] at hf
        exact stop _ (hR _) _ _ hf
  have := key n (Nat.le_refl _)
  rw [Nat.sub_self] at this
  rw [this, List.range_eq_range']
def fstI (q : Int → Bool) (xs : List Int) : Int := match (List.range xs.length).find? fun i => q (xs.getD i 0) with
  | some i => i
  | none => -1
theorem fin_not {σ α : Type} (o : Option α) (y : σ) : (finL o : Option (LRes σ α)) ≠ some (.cont y) := by
  cases o <;> simp [finL]
theorem brk_not {σ α : Type} (i : Nat) (x y : σ) : (some (.brk i x) : Option (LRes σ α)) ≠ some (.cont y) := by simp
theorem any_range (xs : List Int) (q : Int → Bool) : ((List.range xs.length).any fun i => q (xs.getD i 0)) = xs.any q := by
  rw [Bool.eq_iff_iff, List.any_eq_true, List.any_eq_true]
  constructor
  · rintro ⟨i, hi, hq⟩
    have hlt := List.mem_range.1 hi
    rw [List.getD_eq_getElem?_getD, List.getElem?_eq_getElem hlt] at hq
    exact ⟨_, List.getElem_mem hlt, hq⟩
  · rintro ⟨x, hx, hq⟩
    obtain ⟨i, hlt, rfl⟩ := List.mem_iff_getElem.1 hx
    refine ⟨i, List.mem_range.2 hlt, ?_⟩
    rw [List.getD_eq_getElem?_getD, List.getElem?_eq_getElem hlt]
    exact hq
theorem fst_any (q : Int → Bool) (xs : List Int) : decide (fstI q xs ≥ 0) = xs.any q := by
  rw [← any_range]
  unfold fstI
  cases h : (List.range xs.length).find? fun i => q (xs.getD i 0) with
  | none =>
    rw [List.find?_eq_none] at h
    symm
    simpa using h
  | some i =>
    have h1 := List.find?_some h
    have h2 := List.mem_of_find?_eq_some h
    rw [List.any_eq_true.2 ⟨i, h2, h1⟩]
    simp
theorem wrap_small {n : Nat} (h : n ≤ maxLen) : IntKind.i64.wrap (n : Int) = n := by
  have h2 : (n : Int) ≤ 9223372036854775807 := Int.ofNat_le.2 h
  simp [IntKind.wrap, IntKind.bits, IntKind.signed]
  omega
end Go.Proofs.YtgpljldfbhkdlaaGreat

namespace Go.Proofs.YtgpljldfbhkdlaaGreat
open Go.RowKit
structure CvAt (P : Program) (cv : Cv) (v : AVal) : Prop where
  nat : ∀ (α : Type) args h (k : AExit → AVal → List ABlk → Option α), cv α v args h k = (cv _ v args h tripE).bind fun p => k p.1 p.2.1 p.2.2
  ok : ∀ args h x u h1, cv _ v args h tripE = some (x, u, h1) → ∀ (K : Nat → Prop) g w (fv : Value) (cargs : Array Value), St K h g w → Rep h g w v fv → args.length = cargs.size →
    (∀ (j : Nat) c z, args[j]? = some c → cargs[j]? = some z → Rep h g w c z) → CallV P fv cargs w (CvPost K h g w h1 x u)
theorem cv_of {P : Program} {cv : Cv} (h : ∀ v, CvAt P cv v) : CvOk P cv := ⟨fun α v => (h v).nat α, fun v => (h v).ok⟩
theorem CvPost.drop {K h g w h1 x u e w'} (p : CvPost K h g w h1 x u e w') (keep : List Nat) : CvPost K h g w (dropH keep h.length 0 h1) x u e w' := by
  obtain ⟨g', s1, l1, hx⟩ := p
  have al := drop_alike keep h.length h1
  refine ⟨g', al.st s1, drop_le keep l1, ?_⟩
  cases x with
  | normal => obtain ⟨z, h1, h2⟩ := hx; exact ⟨z, h1, al.rep h2⟩
  | pan v => obtain ⟨z, h1, h2⟩ := hx; exact ⟨z, h1, al.rep h2⟩
  | exit i => exact hx
  | ret => exact hx
theorem setTmps_rep {h g w} : ∀ (ps : List Nat) (args : List AVal) (cargs : List Value) (ts : List AVal) (tmps : Array Value), args.length = cargs.length → TRep h g w ts tmps →
    (∀ (j : Nat) c z, args[j]? = some c → cargs[j]? = some z → Rep h g w c z) → TRep h g w (setTmps ts ps args) ((ps.zip cargs).foldl (fun tmps (t, a) => tmps.setIfInBounds t a) tmps)
  | [], args, cargs, ts, tmps, _, ht, _ => by
    have : setTmps ts [] args = ts := by cases args <;> rfl
    rw [this]; exact ht
  | p :: ps, [], cargs, ts, tmps, hl, ht, _ => by
    have : cargs = [] := List.eq_nil_of_length_eq_zero (by simpa using hl.symm)
    subst this
    exact ht
  | p :: ps, a :: args, [], ts, tmps, hl, ht, _ => by simp at hl
  | p :: ps, a :: args, z :: cargs, ts, tmps, hl, ht, hr => by
    simp only [setTmps, List.zip_cons_cons, List.foldl_cons]
    refine setTmps_rep ps args cargs _ _ (by simpa using hl) ?_ fun j c z' h1 h2 => hr (j + 1) c z' (by simpa using h1) (by simpa using h2)
    have := TRep.put (s := ⟨ts, h⟩) (a := { tmps := tmps, defers := [] }) ht (some p) (hr 0 a z rfl rfl)
    exact this
section
variable {P : Program} {T : Tab} {env : Env}
theorem round_nat (hE : EnvOk P env) (N : Nat) (i : Nat) {α : Type} (args : List AVal) (h : List ABlk) (k : AExit → AVal → List ABlk → Option α) :
    evRound real T env N i args h k = (evRound real T env N i args h tripE).bind fun p => k p.1 p.2.1 p.2.2 := by
  unfold evRound
  split
  · rename_i ps asg bo _
    split
    · cases hasRange asg || hasRange bo
      · simp only [cond_false]
        refine bind_nat (e := fun k => ev real T env N asg _ k) (fun k => ev_nat hE N asg _ k) (fun p : AExit × AVal × List ABlk => k p.1 p.2.1 p.2.2) fun x s' => ?_
        cases x with
        | normal =>
          simp only
          split
          · rename_i pend tmps ps' asg' bo' _
            refine bind_nat (e := fun k => ev real T env N bo _ k) (fun k => ev_nat hE N bo _ k) (fun p : AExit × AVal × List ABlk => k p.1 p.2.1 p.2.2) fun x s' => ?_
            split
            · cases x <;> rfl
            · rfl
          · rfl
        | exit i => rfl
        | ret => rfl
        | pan v => rfl
      · rfl
    · rfl
  · rfl
theorem round_ok (hm : P.follows .mixedOrders = true) (hT : TabOk P T) (hE : EnvOk P env) (N : Nat) (i : Nat) {args : List AVal} {h h1 : List ABlk} {x : AExit} {u : AVal} (hk : evRound real T env N i args h tripE = some (x, u, h1))
    {K : Nat → Prop} {g : Gh} {w : World} {fv : Value} {cargs : Array Value} (hs : St K h g w) (hv : Rep h g w (.yld i) fv) (hl : args.length = cargs.size) (hr : ∀ (j : Nat) c z, args[j]? = some c → cargs[j]? = some z → Rep h g w c z) : CallV P fv cargs w (CvPost K h g w h1 x u) := by
  unfold evRound at hk
  split at hk
  case h_2 => cases hk
  rename_i st0 pend ts ps asg bo hh
  have hi := getD_some (by simp) hh
  split at hk
  case isFalse => cases hk
  rename_i hlen
  cases hrg : hasRange asg || hasRange bo
  case true => rw [hrg] at hk; cases hk
  rw [hrg] at hk
  simp only [cond_false] at hk
  simp only [Bool.or_eq_false_iff] at hrg
  obtain ⟨hr1, hr2⟩ := hrg
  obtain ⟨l, arr, fn, Dd, d1, d2, d3, d4⟩ := hs.blk i _ hi
  have hfv : fv = .func (.yield l) #[] #[] := by
    cases hv with
    | yld _ _ _ _ h3 => rw [h3 _ _ _ _ _ _ hi, d1]
  have hy := run_yield (P := P) (args := cargs) d2 (by simp; omega)
  refine .inr (.inl ⟨l, _, _, _, _, hfv, hy, ?_⟩)
  obtain ⟨y, s2, e1, e2⟩ := ev_pair hE hk
  have ht0 : TRep h g w (setTmps ts ps args) ((ps.toArray.zip cargs).foldl (fun tmps (t, a) => tmps.setIfInBounds t a) arr) := by
    have := setTmps_rep (h := h) (g := g) (w := w) ps args cargs.toList ts arr (by simpa using hl) ⟨d3.symm, d4⟩ (fun j c z hc hz => hr j c z hc (by simpa using hz))
    rw [← Array.foldl_toList]
    simpa using this
  refine roundIn_of_wpIn trivial ?_
  refine ev_wp (ro := some l) (K0 := K) hm hT hE N asg _ y s2 _ w g K _ (fun _ h => h) (fun _ => hr1) e1 hs ht0 MRep.nil ⟨fun K1 g1 a1 w1 e kk i1 i2 i3 i4 i5 => ?_⟩
  cases y with
  | exit j => cases e2
  | ret => cases e2
  | pan v => cases e2
  | normal =>
    rw [xr_normal i5]
    simp only at e2
    split at e2
    case h_2 => cases e2
    rename_i pend2 ts2 ps2 asg2 bo2 hh2
    have hi2 := getD_some (by simp) hh2
    have same2 : ts2 = ts ∧ ps2 = ps ∧ asg2 = asg ∧ bo2 = bo ∧ g1.ρ i = g.ρ i := by
      obtain ⟨_, _, q1, q2⟩ := i2.lp i _ _ _ _ _ _ (Here.of hi (by simp)) hi2
      rw [hi] at q1
      cases q1
      exact ⟨rfl, rfl, rfl, rfl, q2⟩
    obtain ⟨rfl, rfl, rfl, rfl, hρ1⟩ := same2
    obtain ⟨l1, r1, f1, f2, f3, f4, f5, f6, f7, f8, l12, s12⟩ := lp_set i1 hi2 .busy pend2
    have hl1 : l1 = l := by rw [hρ1, d1] at f1; cases f1; rfl
    subst hl1
    have hrec : ({ r1 with state := .busy, pending := pend2 } : Loop) = { r1 with state := .busy } := by cases r1; simp_all
    rw [hrec] at l12 s12
    refine ⟨_, run_beginRound f2 f3, ?_⟩
    obtain ⟨y3, s3, e3, e4⟩ := ev_pair hE e2
    refine ev_wp (ro := some l1) (K0 := K) hm hT hE N bo2 _ y3 s3 a1 _ g1 K1 _ kk (fun _ => hr2) e3 s12 (i3.mono l12) (i4.mono l12) ⟨fun K2 g3 a3 w3 e' kk2 j1 j2 j3 j4 j5 => ?_⟩
    split at e4
    case h_2 => cases e4
    rename_i st4 pend4 ts4 ps4 asg4 bo4 hh4
    have hi4 := getD_some (by simp) hh4
    have hρ3 : g3.ρ i = g.ρ i := by
      have hlt : i < s2.heap.length := (List.getElem?_eq_some_iff.1 hi2).1
      obtain ⟨_, _, _, q2⟩ := j2.lp i _ _ _ _ _ _ (Here.of (b := .lp .busy pend2 ts2 ps2 asg2 bo2) (by simp only; rw [List.getElem?_set, if_pos rfl, if_pos hlt]) (by simp)) hi4
      rw [q2, hρ1]
    -- behind the round
    have fin : ∀ (st5 : LoopState) (p5 : Option Code) (b : Bool), st5 = (if p5.isNone then .ready else .done) → b = p5.isNone → tripE .normal (.bool b) (s3.heap.set i (.lp st5 p5 ts4 ps4 asg4 bo4)) = some (x, u, h1) →
        ∃ v w', (Instr.endRound l1 p5).run P w3 = .ok v w' ∧ CvPost K h g w h1 x u (.returned v) w' := fun st5 p5 b hst hb he => by
      obtain ⟨l3, r3, g31, g32, g33, _, _, _, _, _, l34, s34⟩ := lp_set j1 hi4 st5 p5
      have hl3 : l3 = l1 := by rw [hρ3, d1] at g31; cases g31; rfl
      subst hl3
      cases he
      refine ⟨_, _, run_endRound p5 g32, g3, ?_, ?_, .bool p5.isNone, rfl, by rw [hb]; exact .bool _⟩
      · rw [← hst]; exact s34.less fun b hb => kk2 b (kk b hb)
      · rw [← hst]
        exact ((i2.trans (l12.less kk)).trans (j2.less kk)).trans (l34.less fun b hb => kk2 b (kk b hb))
    cases y3 with
    | normal =>
      rw [xr_normal j5]
      exact fin .ready none true rfl rfl e4
    | ret =>
      rw [xr_ret j5]
      exact fin .done (some .ret) false rfl rfl e4
    | exit id =>
      rw [xr_exit j5]
      exact fin .done (some (.exit id)) false rfl rfl e4
    | pan v => cases e4
structure FnOk (P : Program) (f : FuncId) (fn : Func) : Prop where
  get : P.funcs[f]? = some fn
  enter : ∀ args w, (callFunc f args).run P w = .ok (.enter f args) w
structure TwOk (P : Program) (tw : Tower) : Prop where
  fs : ∀ f S, tw.fs f = some S → FspOk P f S
  sp : ∀ f S, tw.sp f = some S → ∀ cv, CvOk P cv → ∀ caps, CvAt P (S cv) (.fn f caps)
  fn : ∀ f fn, tw.fn f = some fn → FnOk P f fn
theorem args_caps {h g w} {args caps : List AVal} {cargs carr : Array Value} (hl : args.length = cargs.size) (hcl : caps.length = carr.size) (hr : ∀ (j : Nat) c z, args[j]? = some c → cargs[j]? = some z → Rep h g w c z) (hcr : ∀ (j : Nat) c z, caps[j]? = some c → carr[j]? = some z → Rep h g w c z) :
    (args ++ caps).length = (cargs ++ carr).size ∧ ∀ (j : Nat) c z, (args ++ caps)[j]? = some c → (cargs ++ carr)[j]? = some z → Rep h g w c z := by
  refine ⟨by simp [hl, hcl], fun j c z hc hz => ?_⟩
  rcases Nat.lt_or_ge j args.length with hj | hj
  · rw [List.getElem?_append_left hj] at hc
    rw [Array.getElem?_append_left (by omega)] at hz
    exact hr j c z hc hz
  · rw [List.getElem?_append_right hj] at hc
    rw [Array.getElem?_append_right (by omega), ← hl] at hz
    exact hcr _ c z hc hz
theorem none_at {cv : Cv} {v : AVal} (h : ∀ (α : Type) args hp (k : AExit → AVal → List ABlk → Option α), cv α v args hp k = none) : CvAt P cv v := ⟨fun α args hp k => by rw [h, h]; rfl, fun args hp x u h1 hk => by rw [h] at hk; cases hk⟩
theorem tower_cv {tw : Tower} (hm : P.follows .mixedOrders = true) (hT : TabOk P T) (ht : TwOk P tw) (N : Nat) : ∀ n, CvOk P (cvN real T tw N n)
  | 0 => cv_of fun v => none_at fun _ _ _ _ => rfl
  | n + 1 => cv_of fun v => by
    have ih := tower_cv hm hT ht N n
    have hE : EnvOk P ⟨tw.fs, tw.pr, cvN real T tw N n⟩ := ⟨ht.fs, ih⟩
    cases v with
    | fn f caps =>
      cases hsp : tw.sp f with
      | some S =>
        have e : ∀ (α : Type) args hp (k : AExit → AVal → List ABlk → Option α), cvN real T tw N (n + 1) α (.fn f caps) args hp k = S (cvN real T tw N n) α (.fn f caps) args hp k := fun α args hp k => by simp only [cvN, hsp]
        have := ht.sp f S hsp _ ih caps
        exact ⟨fun α args hp k => by rw [e, e]; exact this.nat α args hp k, fun args hp x u h1 hk => by rw [e] at hk; exact this.ok args hp x u h1 hk⟩
      | none =>
        cases hfs : (bif Env.inn ⟨tw.fs, tw.pr, fun _ _ _ _ _ => none⟩ f then none else tw.fs f) with
        | some S =>
          have e : ∀ (α : Type) args hp (k : AExit → AVal → List ABlk → Option α), cvN real T tw N (n + 1) α (.fn f caps) args hp k = evPure S false false (args ++ caps) hp k := fun α args hp k => by simp only [cvN, hsp, hfs]
          have hok := ht.fs f S (by cases hin : Env.inn ⟨tw.fs, tw.pr, fun _ _ _ _ _ => none⟩ f <;> rw [hin] at hfs <;> first | exact hfs | cases hfs)
          refine ⟨fun α args hp k => by rw [e, e]; exact evPure_nat hok .., fun args hp x u h1 hk K g w fv cargs hs hv hl hr => ?_⟩
          rw [e] at hk
          cases hv with
          | fn _ _ arr a1 a2 =>
            obtain ⟨b1, b2⟩ := args_caps hl a1 hr a2
            exact .inl ⟨f, arr, rfl, fun w => hok.enter _ w, pure_calls hok hs false false _ _ b1 b2 hk⟩
        | none =>
          cases hfn : tw.fn f with
          | none => exact none_at fun _ _ _ _ => by simp only [cvN, hsp, hfs, hfn]
          | some fn =>
            have e : ∀ (α : Type) args hp (k : AExit → AVal → List ABlk → Option α), cvN real T tw N (n + 1) α (.fn f caps) args hp k = evBody real T ⟨tw.fs, tw.pr, cvN real T tw N n⟩ N fn (args ++ caps) hp fun x v h' => k x v (dropH (keepB h' hp.length v) hp.length 0 h') := fun α args hp k => by simp only [cvN, hsp, hfs, hfn]
            have hok := ht.fn f fn hfn
            refine ⟨fun α args hp k => ?_, fun args hp x u h1 hk K g w fv cargs hs hv hl hr => ?_⟩
            · rw [e, e, body_nat hE N fn (args ++ caps) hp (fun x v h' => k x v (dropH (keepB h' hp.length v) hp.length 0 h')), body_nat hE N fn (args ++ caps) hp (fun x v h' => tripE x v (dropH (keepB h' hp.length v) hp.length 0 h'))]
              cases evBody real T ⟨tw.fs, tw.pr, cvN real T tw N n⟩ N fn (args ++ caps) hp tripE <;> rfl
            · rw [e, body_nat hE] at hk
              cases hq : evBody real T ⟨tw.fs, tw.pr, cvN real T tw N n⟩ N fn (args ++ caps) hp tripE with
              | none => rw [hq] at hk; cases hk
              | some p =>
                obtain ⟨x', u', h'⟩ := p
                rw [hq] at hk
                cases hk
                cases hv with
                | fn _ _ arr a1 a2 =>
                  obtain ⟨b1, b2⟩ := args_caps hl a1 hr a2
                  exact .inl ⟨f, arr, rfl, fun w => hok.enter _ w, (body_calls hm hT hE N hok.get hq hs b1 b2).mono fun e w' hp => hp.drop _⟩
    | yld i =>
      exact ⟨fun α args hp k => round_nat hE N i args hp k, fun args hp x u h1 hk K g w fv cargs hs hv hl hr => round_ok hm hT hE N i hk hs hv hl hr⟩
    | _ => exact none_at fun _ _ _ _ => rfl
theorem tower_ok {tw : Tower} (hm : P.follows .mixedOrders = true) (hT : TabOk P T) (ht : TwOk P tw) (N n : Nat) : EnvOk P (tw.env real T N n) := ⟨ht.fs, tower_cv hm hT ht N n⟩
theorem tower_fsp {tw : Tower} (hm : P.follows .mixedOrders = true) (hT : TabOk P T) (ht : TwOk P tw) {f : FuncId} {fn : Func} (hf : FnOk P f fn)
    {F : List AVal → Option AOut} (hF : ∀ args out, (∀ c ∈ args, Sm c) → F args = some out → ∃ N n, evFn real T (tw.env real T N n) N fn AOut args some = some out) : FspOk P f (toFsp F) where
  enter := hf.enter
  nat := toFsp_nat F
  calls := fun args out hout M w cargs hM hl hr => by
    have hsm : ∀ c ∈ args, Sm c := fun c hc => by
      obtain ⟨j, hj, rfl⟩ := List.mem_iff_getElem.1 hc
      exact (hr j _ _ (List.getElem?_eq_getElem hj) (Array.getElem?_eq_getElem (by omega))).sm
    obtain ⟨N, n, hN⟩ := hF args out hsm (toFsp_some hout)
    exact (fn_ok hm hT (tower_ok hm hT ht N n) N hf.get hf.enter).calls args out hN M w cargs hM hl hr
end
end Go.Proofs.YtgpljldfbhkdlaaGreat

namespace Go.Proofs.YtgpljldfbhkdlaaGreat
open Go.RowKit
def AVal.v0 : AVal → Value
  | .int k n => .int k n
  | .bool b => .bool b
  | .str s => .string s
  | .fn f [] => .func (.func f) #[] #[]
  | _ => .nilIface
def AVal.v1 : AVal → Value
  | .agg cs => .agg (cs.map AVal.v0).toArray
  | v => v.v0
def AVal.v2 : AVal → Value
  | .tup cs => .tuple (cs.map AVal.v1).toArray
  | .ifc t v => .iface t v.v1
  | v => v.v1
def AVal.p0 : AVal → Bool
  | .int _ _ | .bool _ | .str _ | .fn _ [] => true
  | _ => false
def AVal.p1 : AVal → Bool
  | .agg cs => cs.all AVal.p0
  | v => v.p0
def AVal.p2 : AVal → Bool
  | .tup cs => cs.all AVal.p1
  | .ifc _ v => v.p1
  | v => v.p1
theorem rep_p0 {h g w} {v : AVal} {x : Value} (r : Rep h g w v x) (hp : v.p0 = true) : x = v.v0 := by
  cases r <;> first | (simp [AVal.p0] at hp; done) | rfl | skip
  rename_i f cs arr hl _
  cases cs with
  | nil =>
    have : arr = #[] := Array.eq_empty_of_size_eq_zero hl.symm
    subst this; rfl
  | cons a b => simp [AVal.p0] at hp
theorem rep_p1 {h g w} {v : AVal} {x : Value} (r : Rep h g w v x) (hp : v.p1 = true) : x = v.v1 := by
  cases r with
  | agg cs arr hl hr =>
    simp only [AVal.v1, Value.agg.injEq]
    apply Array.ext
    · simp [hl]
    · intro j h1 h2
      have hj : j < cs.length := by simpa using h2
      have := rep_p0 (hr j cs[j] arr[j] (List.getElem?_eq_getElem hj) (Array.getElem?_eq_getElem h1)) (List.all_eq_true.1 hp _ (List.getElem_mem hj))
      rw [this]; simp
  | any v => simp [AVal.p1, AVal.p0] at hp
  | undef => simp [AVal.p1, AVal.p0] at hp
  | int k n => rfl
  | bool b => rfl
  | str b => rfl
  | fn f cs arr hl hr => exact rep_p0 (.fn f cs arr hl hr) hp
  | _ => simp [AVal.p1, AVal.p0] at hp
theorem rep_v0 {h g w} {v : AVal} (hp : v.p0 = true) : Rep h g w v v.v0 := by
  cases v <;> first | (simp [AVal.p0] at hp; done) | constructor | skip
  rename_i f cs
  cases cs with
  | nil => exact .fn f [] #[] rfl fun j c x hc => by simp at hc
  | cons a b => simp [AVal.p0] at hp
theorem rep_v1 {h g w} {v : AVal} (hp : v.p1 = true) : Rep h g w v v.v1 := by
  unfold AVal.p1 at hp
  split at hp
  · rename_i cs
    refine .agg cs _ (by simp) fun j c x hc hx => ?_
    have hj := (List.getElem?_eq_some_iff.1 hc).1
    simp [hc] at hx
    subst hx
    exact rep_v0 (List.all_eq_true.1 hp c (List.mem_of_getElem? hc))
  · rename_i hn
    have : v.v1 = v.v0 := by unfold AVal.v1; split <;> first | rfl | exact absurd rfl (hn _)
    rw [this]; exact rep_v0 hp
theorem rep_v2 {h g w} {v : AVal} (hp : v.p2 = true) : Rep h g w v v.v2 := by
  unfold AVal.p2 at hp
  split at hp
  · rename_i cs
    refine .tup cs _ (by simp) fun j c x hc hx => ?_
    simp [hc] at hx
    subst hx
    exact rep_v1 (List.all_eq_true.1 hp c (List.mem_of_getElem? hc))
  · rename_i t v
    exact .ifc t v _ (rep_v1 hp)
  · rename_i h1 h2
    have : v.v2 = v.v1 := by unfold AVal.v2; split <;> first | rfl | exact absurd rfl (h1 _) | exact absurd rfl (h2 _ _)
    rw [this]; exact rep_v1 hp
theorem reps_p1 {h g w} {args : List AVal} {cargs : Array Value} (hl : args.length = cargs.size) (hr : ∀ (j : Nat) c x, args[j]? = some c → cargs[j]? = some x → Rep h g w c x) (hp : args.all AVal.p1 = true) : cargs = (args.map AVal.v1).toArray := by
  apply Array.ext
  · simp [hl]
  · intro j h1 h2
    have hj : j < args.length := by simpa using h2
    have := rep_p1 (hr j args[j] cargs[j] (List.getElem?_eq_getElem hj) (Array.getElem?_eq_getElem h1)) (List.all_eq_true.1 hp _ (List.getElem_mem hj))
    rw [this]; simp
def AOut.plain : AOut → Bool
  | .ret v => v.p2
  | .pan v => v.p2
def AOut.ending : AOut → Ending
  | .ret v => .returned v.v2
  | .pan v => .panicked [{ v := v.v2, recovered := false }]
theorem fsp_walk {P : Program} {f : FuncId} {F : List AVal → Option AOut} (hen : ∀ args w, (callFunc f args).run P w = .ok (.enter f args) w)
    (h : ∀ args out, F args = some out → args.all AVal.p1 = true ∧ out.plain = true ∧ ∀ w, Calls P f (args.map AVal.v1).toArray w fun e w' => e = out.ending ∧ Below w.heap.size w w') : FspOk P f (toFsp F) where
  enter := hen
  nat := toFsp_nat F
  calls := fun args out hout M w cargs hM hl hr => by
    obtain ⟨h1, h2, h3⟩ := h args out (toFsp_some hout)
    rw [reps_p1 hl hr h1]
    refine (h3 w).mono ?_
    rintro e w' ⟨rfl, hb⟩
    refine ⟨M, fun _ h => h, fun _ h => .inl h, fun b h => Nat.lt_of_lt_of_le (hM b h) hb.size, hb, ?_⟩
    cases out with
    | ret v => exact ⟨_, rfl, rep_v2 h2⟩
    | pan v => exact ⟨_, rfl, rep_v2 h2⟩
def extS (S : Fsp) (_ : Cv) : Cv := fun _ v args h k =>
  match v with
  | .fn _ [] => S _ args fun o =>
    match o with
    | .ret r => k .normal r h
    | .pan _ => none
  | _ => none
theorem ext_at {P : Program} {f : FuncId} {S : Fsp} (hn : ∀ (α : Type) args (k : AOut → Option α), S α args k = (S AOut args some).bind k)
    (hF : ∀ args out, S AOut args some = some out → ∃ r, out = .ret r ∧ (∃ c, args[0]? = some c ∧ ∀ f cs, c ≠ .fn f cs) ∧ args.all AVal.p1 = true ∧ r.p2 = true ∧ ∀ w, (callFunc f (args.map AVal.v1).toArray).run P w = .ok (.value r.v2) w) (cv : Cv) (_ : CvOk P cv) (caps : List AVal) : CvAt P (extS S cv) (.fn f caps) where
  nat := fun α args h k => by
    unfold extS
    cases caps with
    | nil =>
      simp only
      rw [hn, hn _ _ fun o => match o with | .ret r => tripE .normal r h | .pan _ => none]
      cases S AOut args some with
      | none => rfl
      | some o => cases o <;> rfl
    | cons a b => rfl
  ok := fun args h x u h1 hk K g w fv cargs s hfv hl hr => by
    unfold extS at hk
    cases caps with
    | cons a b => cases hk
    | nil =>
      simp only at hk
      rw [hn] at hk
      cases hq : S AOut args some with
      | none => rw [hq] at hk; cases hk
      | some o =>
        obtain ⟨r, rfl, ⟨c0, e0, e0'⟩, e1, e2, e3⟩ := hF args _ hq
        rw [hq] at hk
        cases hk
        have hc := reps_p1 hl hr e1
        have hfv' := rep_p1 hfv rfl
        subst hfv'
        refine .inr (.inr ⟨f, #[], _, rfl, ?_, ?_, g, s, .refl, _, rfl, rep_v2 e2⟩)
        · rw [hc]
          refine ⟨c0.v1, by simp [e0], fun a b c => ?_⟩
          have hp := List.all_eq_true.1 e1 c0 (List.mem_of_getElem? e0)
          cases c0 <;> simp [AVal.v1, AVal.v0]
          exact absurd rfl (e0' _ _)
        · rw [Array.append_empty, hc]; exact e3 w
end Go.Proofs.YtgpljldfbhkdlaaGreat

namespace Go.Proofs.YtgpljldfbhkdlaaGreat
open Go.RowKit
def lookF : List (Nat × Func) → Nat → Option Func
  | [], _ => none
  | (u, e) :: r, t => if t = u then some e else lookF r t
def AllFn (P : Program) : List (Nat × Func) → Prop
  | [] => True
  | (u, e) :: r => FnOk P u e ∧ AllFn P r
theorem allCons {P : Program} {u : Nat} {e : Func} {l : List (Nat × Func)} (h : FnOk P u e) (r : AllFn P l) : AllFn P ((u, e) :: l) := ⟨h, r⟩
theorem look_ok {P : Program} : ∀ {l : List (Nat × Func)}, AllFn P l → ∀ f fn, lookF l f = some fn → FnOk P f fn
  | [], _, f, fn, h => by cases h
  | (u, e) :: r, ha, f, fn, h => by
    simp only [lookF] at h
    split at h
    · rename_i e1; cases h; subst e1; exact ha.1
    · exact look_ok ha.2 f fn h
noncomputable def fnsT : List (Nat × Func) := [(3, Tryz.f3), (4, Tryz.f4), (5, Tryz.f5), (6, Tryz.f6), (7, Tryz.f7), (8, Tryz.f8), (9, Tryz.f9), (10, Tryz.f10), (11, Tryz.f11), (12, Tryz.f12), (13, Tryz.f13), (14, Tryz.f14), (15, Tryz.f15), (16, Tryz.f16), (17, Tryz.f17), (18, Tryz.f18), (19, Tryz.f19), (20, Tryz.f20), (21, Tryz.f21), (22, Tryz.f22), (23, Tryz.f23), (24, Tryz.f24), (25, Tryz.f25), (26, Tryz.f26), (27, Tryz.f27), (28, Tryz.f28), (29, Tryz.f29), (30, Tryz.f30), (31, Tryz.f31), (32, Tryz.f32), (33, Tryz.f33), (34, Tryz.f34), (35, Tryz.f35), (36, Tryz.f36), (37, Tryz.f37), (38, Tryz.f38), (39, Tryz.f39), (40, Tryz.f40), (41, Tryz.f41), (42, Tryz.f42), (43, Tryz.f43), (44, Tryz.f44), (45, Tryz.f45), (46, Tryz.f46), (47, Tryz.f47), (48, Tryz.f48), (49, Tryz.f49), (50, Tryz.f50), (51, Tryz.f51), (52, Tryz.f52), (53, Tryz.f53), (54, Tryz.f54), (55, Tryz.f55), (56, Tryz.f56), (57, Tryz.f57), (58, Tryz.f58), (59, Tryz.f59), (60, Tryz.f60), (61, Tryz.f61), (62, Tryz.f62), (63, Tryz.f63), (64, Tryz.f64), (65, Tryz.f65), (66, Tryz.f66), (67, Tryz.f67), (68, Tryz.f68), (69, Tryz.f69), (70, Tryz.f70), (71, Tryz.f71), (72, Tryz.f72), (73, Tryz.f73), (74, Tryz.f74), (75, Tryz.f75), (76, Tryz.f76), (77, Tryz.f77), (78, Tryz.f78), (79, Tryz.f79), (80, Tryz.f80), (81, Tryz.f81), (82, Tryz.f82), (83, Tryz.f83), (84, Tryz.f84), (85, Tryz.f85), (86, Tryz.f86), (87, Tryz.f87), (88, Tryz.f88), (89, Tryz.f89), (90, Tryz.f90), (91, Tryz.f91), (92, Tryz.f92), (93, Tryz.f93), (94, Tryz.f94), (95, Tryz.f95), (96, Tryz.f96), (97, Tryz.f97), (98, Tryz.f98), (99, Tryz.f99), (100, Tryz.f100), (101, Tryz.f101), (102, Tryz.f102), (103, Tryz.f103), (104, Tryz.f104), (105, Tryz.f105), (106, Tryz.f106), (107, Tryz.f107), (108, Tryz.f108), (109, Tryz.f109), (110, Tryz.f110), (111, Tryz.f111), (112, Tryz.f112), (113, Tryz.f113), (114, Tryz.f114), (115, Tryz.f115), (116, Tryz.f116), (117, Tryz.f117), (118, Tryz.f118), (119, Tryz.f119), (120, Tryz.f120), (121, Tryz.f121), (122, Tryz.f122), (123, Tryz.f123), (124, Tryz.f124), (125, Tryz.f125), (126, Tryz.f126), (127, Tryz.f127), (128, Tryz.f128), (129, Tryz.f129), (130, Tryz.f130), (131, Tryz.f131), (132, Tryz.f132), (133, Tryz.f133), (134, Tryz.f134), (135, Tryz.f135), (136, Tryz.f136), (137, Tryz.f137), (138, Tryz.f138), (139, Tryz.f139), (140, Tryz.f140), (141, Tryz.f141), (142, Tryz.f142), (143, Tryz.f143), (144, Tryz.f144), (145, Tryz.f145), (146, Tryz.f146), (147, Tryz.f147), (148, Tryz.f148), (149, Tryz.f149), (150, Tryz.f150), (151, Tryz.f151), (152, Tryz.f152), (153, Tryz.f153), (154, Tryz.f154), (155, Tryz.f155), (156, Tryz.f156), (157, Tryz.f157), (158, Tryz.f158), (159, Tryz.f159), (160, Tryz.f160), (161, Tryz.f161), (162, Tryz.f162), (164, Tryz.f164), (165, Tryz.f165), (166, Tryz.f166), (167, Tryz.f167), (168, Tryz.f168), (169, Tryz.f169), (170, Tryz.f170), (171, Tryz.f171), (172, Tryz.f172), (173, Tryz.f173), (174, Tryz.f174), (175, Tryz.f175), (176, Tryz.f176), (177, Tryz.f177), (178, Tryz.f178), (179, Tryz.f179), (180, Tryz.f180), (181, Tryz.f181), (182, Tryz.f182), (183, Tryz.f183), (184, Tryz.f184), (185, Tryz.f185), (186, Tryz.f186), (187, Tryz.f187), (188, Tryz.f188), (189, Tryz.f189), (190, Tryz.f190), (191, Tryz.f191), (192, Tryz.f192), (193, Tryz.f193), (194, Tryz.f194), (195, Tryz.f195), (196, Tryz.f196), (197, Tryz.f197), (198, Tryz.f198), (199, Tryz.f199), (200, Tryz.f200), (201, Tryz.f201), (202, Tryz.f202), (203, Tryz.f203), (204, Tryz.f204), (205, Tryz.f205), (206, Tryz.f206), (207, Tryz.f207)]
theorem fnsT_ok : AllFn Tryz.prog fnsT :=
  allCons ⟨Tryz.func3, fun _ _ => by kernel_rfl⟩ <|
  allCons ⟨Tryz.func4, fun _ _ => by kernel_rfl⟩ <|
  allCons ⟨Tryz.func5, fun _ _ => by kernel_rfl⟩ <|
  allCons ⟨Tryz.func6, fun _ _ => by kernel_rfl⟩ <|
  allCons ⟨Tryz.func7, fun _ _ => by kernel_rfl⟩ <|
  allCons ⟨Tryz.func8, fun _ _ => by kernel_rfl⟩ <|
  allCons ⟨Tryz.func9, fun _ _ => by kernel_rfl⟩ <|
  allCons ⟨Tryz.func10, fun _ _ => by kernel_rfl⟩ <|
  allCons ⟨Tryz.func11, fun _ _ => by kernel_rfl⟩ <|
  allCons ⟨Tryz.func12, fun _ _ => by kernel_rfl⟩ <|
  allCons ⟨Tryz.func13, fun _ _ => by kernel_rfl⟩ <|
  allCons ⟨Tryz.func14, fun _ _ => by kernel_rfl⟩ <|
  allCons ⟨Tryz.func15, fun _ _ => by kernel_rfl⟩ <|
  allCons ⟨Tryz.func16, fun _ _ => by kernel_rfl⟩ <|
  allCons ⟨Tryz.func17, fun _ _ => by kernel_rfl⟩ <|
  allCons ⟨Tryz.func18, fun _ _ => by kernel_rfl⟩ <|
  allCons ⟨Tryz.func19, fun _ _ => by kernel_rfl⟩ <|
  allCons ⟨Tryz.func20, fun _ _ => by kernel_rfl⟩ <|
  allCons ⟨Tryz.func21, fun _ _ => by kernel_rfl⟩ <|
  allCons ⟨Tryz.func22, fun _ _ => by kernel_rfl⟩ <|
  allCons ⟨Tryz.func23, fun _ _ => by kernel_rfl⟩ <|
  allCons ⟨Tryz.func24, fun _ _ => by kernel_rfl⟩ <|
  allCons ⟨Tryz.func25, fun _ _ => by kernel_rfl⟩ <|
  allCons ⟨Tryz.func26, fun _ _ => by kernel_rfl⟩ <|
  allCons ⟨Tryz.func27, fun _ _ => by kernel_rfl⟩ <|
  allCons ⟨Tryz.func28, fun _ _ => by kernel_rfl⟩ <|
  allCons ⟨Tryz.func29, fun _ _ => by kernel_rfl⟩ <|
  allCons ⟨Tryz.func30, fun _ _ => by kernel_rfl⟩ <|
  allCons ⟨Tryz.func31, fun _ _ => by kernel_rfl⟩ <|
  allCons ⟨Tryz.func32, fun _ _ => by kernel_rfl⟩ <|
  allCons ⟨Tryz.func33, fun _ _ => by kernel_rfl⟩ <|
  allCons ⟨Tryz.func34, fun _ _ => by kernel_rfl⟩ <|
  allCons ⟨Tryz.func35, fun _ _ => by kernel_rfl⟩ <|
  allCons ⟨Tryz.func36, fun _ _ => by kernel_rfl⟩ <|
  allCons ⟨Tryz.func37, fun _ _ => by kernel_rfl⟩ <|
  allCons ⟨Tryz.func38, fun _ _ => by kernel_rfl⟩ <|
  allCons ⟨Tryz.func39, fun _ _ => by kernel_rfl⟩ <|
  allCons ⟨Tryz.func40, fun _ _ => by kernel_rfl⟩ <|
  allCons ⟨Tryz.func41, fun _ _ => by kernel_rfl⟩ <|
  allCons ⟨Tryz.func42, fun _ _ => by kernel_rfl⟩ <|
  allCons ⟨Tryz.func43, fun _ _ => by kernel_rfl⟩ <|
  allCons ⟨Tryz.func44, fun _ _ => by kernel_rfl⟩ <|
  allCons ⟨Tryz.func45, fun _ _ => by kernel_rfl⟩ <|
  allCons ⟨Tryz.func46, fun _ _ => by kernel_rfl⟩ <|
  allCons ⟨Tryz.func47, fun _ _ => by kernel_rfl⟩ <|
  allCons ⟨Tryz.func48, fun _ _ => by kernel_rfl⟩ <|
  allCons ⟨Tryz.func49, fun _ _ => by kernel_rfl⟩ <|
  allCons ⟨Tryz.func50, fun _ _ => by kernel_rfl⟩ <|
  allCons ⟨Tryz.func51, fun _ _ => by kernel_rfl⟩ <|
  allCons ⟨Tryz.func52, fun _ _ => by kernel_rfl⟩ <|
  allCons ⟨Tryz.func53, fun _ _ => by kernel_rfl⟩ <|
  allCons ⟨Tryz.func54, fun _ _ => by kernel_rfl⟩ <|
  allCons ⟨Tryz.func55, fun _ _ => by kernel_rfl⟩ <|
  allCons ⟨Tryz.func56, fun _ _ => by kernel_rfl⟩ <|
  allCons ⟨Tryz.func57, fun _ _ => by kernel_rfl⟩ <|
  allCons ⟨Tryz.func58, fun _ _ => by kernel_rfl⟩ <|
  allCons ⟨Tryz.func59, fun _ _ => by kernel_rfl⟩ <|
  allCons ⟨Tryz.func60, fun _ _ => by kernel_rfl⟩ <|
  allCons ⟨Tryz.func61, fun _ _ => by kernel_rfl⟩ <|
  allCons ⟨Tryz.func62, fun _ _ => by kernel_rfl⟩ <|
  allCons ⟨Tryz.func63, fun _ _ => by kernel_rfl⟩ <|
  allCons ⟨Tryz.func64, fun _ _ => by kernel_rfl⟩ <|
  allCons ⟨Tryz.func65, fun _ _ => by kernel_rfl⟩ <|
  allCons ⟨Tryz.func66, fun _ _ => by kernel_rfl⟩ <|
  allCons ⟨Tryz.func67, fun _ _ => by kernel_rfl⟩ <|
  allCons ⟨Tryz.func68, fun _ _ => by kernel_rfl⟩ <|
  allCons ⟨Tryz.func69, fun _ _ => by kernel_rfl⟩ <|
  allCons ⟨Tryz.func70, fun _ _ => by kernel_rfl⟩ <|
  allCons ⟨Tryz.func71, fun _ _ => by kernel_rfl⟩ <|
  allCons ⟨Tryz.func72, fun _ _ => by kernel_rfl⟩ <|
  allCons ⟨Tryz.func73, fun _ _ => by kernel_rfl⟩ <|
  allCons ⟨Tryz.func74, fun _ _ => by kernel_rfl⟩ <|
  allCons ⟨Tryz.func75, fun _ _ => by kernel_rfl⟩ <|
  allCons ⟨Tryz.func76, fun _ _ => by kernel_rfl⟩ <|
  allCons ⟨Tryz.func77, fun _ _ => by kernel_rfl⟩ <|
  allCons ⟨Tryz.func78, fun _ _ => by kernel_rfl⟩ <|
  allCons ⟨Tryz.func79, fun _ _ => by kernel_rfl⟩ <|
  allCons ⟨Tryz.func80, fun _ _ => by kernel_rfl⟩ <|
  allCons ⟨Tryz.func81, fun _ _ => by kernel_rfl⟩ <|
  allCons ⟨Tryz.func82, fun _ _ => by kernel_rfl⟩ <|
  allCons ⟨Tryz.func83, fun _ _ => by kernel_rfl⟩ <|
  allCons ⟨Tryz.func84, fun _ _ => by kernel_rfl⟩ <|
  allCons ⟨Tryz.func85, fun _ _ => by kernel_rfl⟩ <|
  allCons ⟨Tryz.func86, fun _ _ => by kernel_rfl⟩ <|
  allCons ⟨Tryz.func87, fun _ _ => by kernel_rfl⟩ <|
  allCons ⟨Tryz.func88, fun _ _ => by kernel_rfl⟩ <|
  allCons ⟨Tryz.func89, fun _ _ => by kernel_rfl⟩ <|
  allCons ⟨Tryz.func90, fun _ _ => by kernel_rfl⟩ <|
  allCons ⟨Tryz.func91, fun _ _ => by kernel_rfl⟩ <|
  allCons ⟨Tryz.func92, fun _ _ => by kernel_rfl⟩ <|
  allCons ⟨Tryz.func93, fun _ _ => by kernel_rfl⟩ <|
  allCons ⟨Tryz.func94, fun _ _ => by kernel_rfl⟩ <|
  allCons ⟨Tryz.func95, fun _ _ => by kernel_rfl⟩ <|
  allCons ⟨Tryz.func96, fun _ _ => by kernel_rfl⟩ <|
  allCons ⟨Tryz.func97, fun _ _ => by kernel_rfl⟩ <|
  allCons ⟨Tryz.func98, fun _ _ => by kernel_rfl⟩ <|
  allCons ⟨Tryz.func99, fun _ _ => by kernel_rfl⟩ <|
  allCons ⟨Tryz.func100, fun _ _ => by kernel_rfl⟩ <|
  allCons ⟨Tryz.func101, fun _ _ => by kernel_rfl⟩ <|
  allCons ⟨Tryz.func102, fun _ _ => by kernel_rfl⟩ <|
  allCons ⟨Tryz.func103, fun _ _ => by kernel_rfl⟩ <|
  allCons ⟨Tryz.func104, fun _ _ => by kernel_rfl⟩ <|
  allCons ⟨Tryz.func105, fun _ _ => by kernel_rfl⟩ <|
  allCons ⟨Tryz.func106, fun _ _ => by kernel_rfl⟩ <|
  allCons ⟨Tryz.func107, fun _ _ => by kernel_rfl⟩ <|
  allCons ⟨Tryz.func108, fun _ _ => by kernel_rfl⟩ <|
  allCons ⟨Tryz.func109, fun _ _ => by kernel_rfl⟩ <|
  allCons ⟨Tryz.func110, fun _ _ => by kernel_rfl⟩ <|
  allCons ⟨Tryz.func111, fun _ _ => by kernel_rfl⟩ <|
  allCons ⟨Tryz.func112, fun _ _ => by kernel_rfl⟩ <|
  allCons ⟨Tryz.func113, fun _ _ => by kernel_rfl⟩ <|
  allCons ⟨Tryz.func114, fun _ _ => by kernel_rfl⟩ <|
  allCons ⟨Tryz.func115, fun _ _ => by kernel_rfl⟩ <|
  allCons ⟨Tryz.func116, fun _ _ => by kernel_rfl⟩ <|
  allCons ⟨Tryz.func117, fun _ _ => by kernel_rfl⟩ <|
  allCons ⟨Tryz.func118, fun _ _ => by kernel_rfl⟩ <|
  allCons ⟨Tryz.func119, fun _ _ => by kernel_rfl⟩ <|
  allCons ⟨Tryz.func120, fun _ _ => by kernel_rfl⟩ <|
  allCons ⟨Tryz.func121, fun _ _ => by kernel_rfl⟩ <|
  allCons ⟨Tryz.func122, fun _ _ => by kernel_rfl⟩ <|
  allCons ⟨Tryz.func123, fun _ _ => by kernel_rfl⟩ <|
  allCons ⟨Tryz.func124, fun _ _ => by kernel_rfl⟩ <|
  allCons ⟨Tryz.func125, fun _ _ => by kernel_rfl⟩ <|
  allCons ⟨Tryz.func126, fun _ _ => by kernel_rfl⟩ <|
  allCons ⟨Tryz.func127, fun _ _ => by kernel_rfl⟩ <|
  allCons ⟨Tryz.func128, fun _ _ => by kernel_rfl⟩ <|
  allCons ⟨Tryz.func129, fun _ _ => by kernel_rfl⟩ <|
  allCons ⟨Tryz.func130, fun _ _ => by kernel_rfl⟩ <|
  allCons ⟨Tryz.func131, fun _ _ => by kernel_rfl⟩ <|
  allCons ⟨Tryz.func132, fun _ _ => by kernel_rfl⟩ <|
  allCons ⟨Tryz.func133, fun _ _ => by kernel_rfl⟩ <|
  allCons ⟨Tryz.func134, fun _ _ => by kernel_rfl⟩ <|
  allCons ⟨Tryz.func135, fun _ _ => by kernel_rfl⟩ <|
  allCons ⟨Tryz.func136, fun _ _ => by kernel_rfl⟩ <|
  allCons ⟨Tryz.func137, fun _ _ => by kernel_rfl⟩ <|
  allCons ⟨Tryz.func138, fun _ _ => by kernel_rfl⟩ <|
  allCons ⟨Tryz.func139, fun _ _ => by kernel_rfl⟩ <|
  allCons ⟨Tryz.func140, fun _ _ => by kernel_rfl⟩ <|
  allCons ⟨Tryz.func141, fun _ _ => by kernel_rfl⟩ <|
  allCons ⟨Tryz.func142, fun _ _ => by kernel_rfl⟩ <|
  allCons ⟨Tryz.func143, fun _ _ => by kernel_rfl⟩ <|
  allCons ⟨Tryz.func144, fun _ _ => by kernel_rfl⟩ <|
  allCons ⟨Tryz.func145, fun _ _ => by kernel_rfl⟩ <|
  allCons ⟨Tryz.func146, fun _ _ => by kernel_rfl⟩ <|
  allCons ⟨Tryz.func147, fun _ _ => by kernel_rfl⟩ <|
  allCons ⟨Tryz.func148, fun _ _ => by kernel_rfl⟩ <|
  allCons ⟨Tryz.func149, fun _ _ => by kernel_rfl⟩ <|
  allCons ⟨Tryz.func150, fun _ _ => by kernel_rfl⟩ <|
  allCons ⟨Tryz.func151, fun _ _ => by kernel_rfl⟩ <|
  allCons ⟨Tryz.func152, fun _ _ => by kernel_rfl⟩ <|
  allCons ⟨Tryz.func153, fun _ _ => by kernel_rfl⟩ <|
  allCons ⟨Tryz.func154, fun _ _ => by kernel_rfl⟩ <|
  allCons ⟨Tryz.func155, fun _ _ => by kernel_rfl⟩ <|
  allCons ⟨Tryz.func156, fun _ _ => by kernel_rfl⟩ <|
  allCons ⟨Tryz.func157, fun _ _ => by kernel_rfl⟩ <|
  allCons ⟨Tryz.func158, fun _ _ => by kernel_rfl⟩ <|
  allCons ⟨Tryz.func159, fun _ _ => by kernel_rfl⟩ <|
  allCons ⟨Tryz.func160, fun _ _ => by kernel_rfl⟩ <|
  allCons ⟨Tryz.func161, fun _ _ => by kernel_rfl⟩ <|
  allCons ⟨Tryz.func162, fun _ _ => by kernel_rfl⟩ <|
  allCons ⟨Tryz.func164, fun _ _ => by kernel_rfl⟩ <|
  allCons ⟨Tryz.func165, fun _ _ => by kernel_rfl⟩ <|
  allCons ⟨Tryz.func166, fun _ _ => by kernel_rfl⟩ <|
  allCons ⟨Tryz.func167, fun _ _ => by kernel_rfl⟩ <|
  allCons ⟨Tryz.func168, fun _ _ => by kernel_rfl⟩ <|
  allCons ⟨Tryz.func169, fun _ _ => by kernel_rfl⟩ <|
  allCons ⟨Tryz.func170, fun _ _ => by kernel_rfl⟩ <|
  allCons ⟨Tryz.func171, fun _ _ => by kernel_rfl⟩ <|
  allCons ⟨Tryz.func172, fun _ _ => by kernel_rfl⟩ <|
  allCons ⟨Tryz.func173, fun _ _ => by kernel_rfl⟩ <|
  allCons ⟨Tryz.func174, fun _ _ => by kernel_rfl⟩ <|
  allCons ⟨Tryz.func175, fun _ _ => by kernel_rfl⟩ <|
  allCons ⟨Tryz.func176, fun _ _ => by kernel_rfl⟩ <|
  allCons ⟨Tryz.func177, fun _ _ => by kernel_rfl⟩ <|
  allCons ⟨Tryz.func178, fun _ _ => by kernel_rfl⟩ <|
  allCons ⟨Tryz.func179, fun _ _ => by kernel_rfl⟩ <|
  allCons ⟨Tryz.func180, fun _ _ => by kernel_rfl⟩ <|
  allCons ⟨Tryz.func181, fun _ _ => by kernel_rfl⟩ <|
  allCons ⟨Tryz.func182, fun _ _ => by kernel_rfl⟩ <|
  allCons ⟨Tryz.func183, fun _ _ => by kernel_rfl⟩ <|
  allCons ⟨Tryz.func184, fun _ _ => by kernel_rfl⟩ <|
  allCons ⟨Tryz.func185, fun _ _ => by kernel_rfl⟩ <|
  allCons ⟨Tryz.func186, fun _ _ => by kernel_rfl⟩ <|
  allCons ⟨Tryz.func187, fun _ _ => by kernel_rfl⟩ <|
  allCons ⟨Tryz.func188, fun _ _ => by kernel_rfl⟩ <|
  allCons ⟨Tryz.func189, fun _ _ => by kernel_rfl⟩ <|
  allCons ⟨Tryz.func190, fun _ _ => by kernel_rfl⟩ <|
  allCons ⟨Tryz.func191, fun _ _ => by kernel_rfl⟩ <|
  allCons ⟨Tryz.func192, fun _ _ => by kernel_rfl⟩ <|
  allCons ⟨Tryz.func193, fun _ _ => by kernel_rfl⟩ <|
  allCons ⟨Tryz.func194, fun _ _ => by kernel_rfl⟩ <|
  allCons ⟨Tryz.func195, fun _ _ => by kernel_rfl⟩ <|
  allCons ⟨Tryz.func196, fun _ _ => by kernel_rfl⟩ <|
  allCons ⟨Tryz.func197, fun _ _ => by kernel_rfl⟩ <|
  allCons ⟨Tryz.func198, fun _ _ => by kernel_rfl⟩ <|
  allCons ⟨Tryz.func199, fun _ _ => by kernel_rfl⟩ <|
  allCons ⟨Tryz.func200, fun _ _ => by kernel_rfl⟩ <|
  allCons ⟨Tryz.func201, fun _ _ => by kernel_rfl⟩ <|
  allCons ⟨Tryz.func202, fun _ _ => by kernel_rfl⟩ <|
  allCons ⟨Tryz.func203, fun _ _ => by kernel_rfl⟩ <|
  allCons ⟨Tryz.func204, fun _ _ => by kernel_rfl⟩ <|
  allCons ⟨Tryz.func205, fun _ _ => by kernel_rfl⟩ <|
  allCons ⟨Tryz.func206, fun _ _ => by kernel_rfl⟩ <|
  allCons ⟨Tryz.func207, fun _ _ => by kernel_rfl⟩ <|
  trivial
end Go.Proofs.YtgpljldfbhkdlaaGreat

namespace Go.Proofs.YtgpljldfbhkdlaaGreat
def okB (a : Int) : Bool := decide (-70368744177664 ≤ a) && decide (a ≤ 70368744177664)
def wayB (how : Int) : Bool := decide (0 ≤ how) && decide (how ≤ 3)
def rateB (n : Int) : Bool := decide (-2147483648 ≤ n) && decide (n ≤ 2147483648)
def ab (x : Int) : Int := if x < 0 then -x else x
def ngB (x : Int) : Bool := decide (x < 0)
def sg (neg : Bool) (n : Int) : Int := bif neg then -n else n
def up1 (how : Int) (neg : Bool) (r d : Int) : Bool := decide (0 < r) && (if how = 1 then neg else if how = 2 then !neg else if how = 3 then decide (d ≤ r + r) else false)
def rnd (how : Int) (neg : Bool) (n d : Int) : Int := n / d + (bif up1 how neg (n % d) d then 1 else 0)
def fxB (n : Int) : Bool := decide (n ≤ 70368744177664)
def fxV (neg : Bool) (n : Int) : Int := bif fxB n then sg neg n else 0
def fxE (n : Int) : Int := bif fxB n then 0 else 4
theorem ab_nn (x : Int) : 0 ≤ ab x := by unfold ab; split <;> omega
theorem ok_iff {a : Int} : okB a = true ↔ -70368744177664 ≤ a ∧ a ≤ 70368744177664 := by simp [okB]
theorem ok_ab {a : Int} (h : okB a = true) : ab a ≤ 70368744177664 := by rw [ok_iff] at h; unfold ab; split <;> omega
theorem way_cases {how : Int} (h : wayB how = true) : how = 0 ∨ how = 1 ∨ how = 2 ∨ how = 3 := by simp [wayB] at h; omega
theorem rate_iff {a : Int} : rateB a = true ↔ -2147483648 ≤ a ∧ a ≤ 2147483648 := by simp [rateB]
theorem rnd_nn {how : Int} {neg : Bool} {n d : Int} (hn : 0 ≤ n) (hd : 0 < d) : 0 ≤ rnd how neg n d := by
  unfold rnd
  have := Int.ediv_nonneg hn (Int.le_of_lt hd)
  cases up1 how neg (n % d) d <;> simp <;> omega
theorem sg_ok {neg : Bool} {n : Int} (h0 : 0 ≤ n) (h : fxB n = true) : okB (sg neg n) = true := by
  simp [fxB] at h
  rw [ok_iff]
  unfold sg
  cases neg <;> simp <;> omega
theorem fxV_ok {neg : Bool} {n : Int} (h0 : 0 ≤ n) : okB (fxV neg n) = true := by
  unfold fxV
  cases h : fxB n
  · rfl
  · exact sg_ok h0 h
def addV (a b : Int) : Int := bif okB a && okB b then fxV (ngB (a + b)) (ab (a + b)) else 0
def addE (a b : Int) : Int := bif okB a && okB b then fxE (ab (a + b)) else 2
def subV (a b : Int) : Int := bif okB a && okB b then fxV (ngB (a - b)) (ab (a - b)) else 0
def subE (a b : Int) : Int := bif okB a && okB b then fxE (ab (a - b)) else 2
theorem sg_ab (x : Int) : sg (ngB x) (ab x) = x := by
  unfold sg ngB ab
  by_cases h : x < 0
  · rw [decide_eq_true h, if_pos h]; simp
  · rw [decide_eq_false h, if_neg h]; simp
def xorB (a b : Bool) : Bool := a != b
def prN (a b how : Int) : Int := rnd how (xorB (ngB a) (ngB b)) (ab a * ab b) 65536
def mulB (a b how : Int) : Bool := okB a && okB b && wayB how
def mulV (a b how : Int) : Int := bif mulB a b how then fxV (xorB (ngB a) (ngB b)) (prN a b how) else 0
def mulE (a b how : Int) : Int := bif mulB a b how then fxE (prN a b how) else 2
def scB (a n d how : Int) : Bool := okB a && wayB how && rateB n && rateB d
def scG (a n d : Int) : Bool := xorB (ngB a) (xorB (ngB n) (ngB d))
def scN (a n d how : Int) : Int := rnd how (scG a n d) (ab a * ab n) (ab d)
def scV (a n d how : Int) : Int := bif scB a n d how then (bif d == 0 then 0 else fxV (scG a n d) (scN a n d how)) else 0
def scE (a n d how : Int) : Int := bif scB a n d how then (bif d == 0 then 10 else fxE (scN a n d how)) else 2
def bs (p : Nat → Bool) : Nat → Nat → Nat
  | 0, n => n
  | k + 1, n => bif p (n + 2 ^ k) then bs p k (n + 2 ^ k) else bs p k n
theorem bs_spec (p : Nat → Bool) (hp : ∀ m n, n ≤ m → p m = true → p n = true) : ∀ (k n : Nat), p n = true → p (n + 2 ^ k) = false → p (bs p k n) = true ∧ p (bs p k n + 1) = false ∧ n ≤ bs p k n ∧ bs p k n < n + 2 ^ k
  | 0, n, h1, h2 => ⟨h1, h2, Nat.le_refl _, by simp [bs]⟩
  | k + 1, n, h1, h2 => by
    have e : n + 2 ^ k + 2 ^ k = n + 2 ^ (k + 1) := by rw [Nat.pow_succ]; omega
    have hpos : 0 < 2 ^ k := Nat.two_pow_pos k
    simp only [bs]
    cases h : p (n + 2 ^ k)
    · obtain ⟨a, b, c, d⟩ := bs_spec p hp k n h1 h
      exact ⟨a, b, c, by simp only [cond_false]; omega⟩
    · obtain ⟨a, b, c, d⟩ := bs_spec p hp k (n + 2 ^ k) h (by rw [e]; exact h2)
      exact ⟨a, b, by simp only [cond_true]; omega, by simp only [cond_true]; omega⟩
theorem bs_eq (p : Nat → Bool) (hp : ∀ m n, n ≤ m → p m = true → p n = true) {k n m : Nat} (h1 : p n = true) (h2 : p (n + 2 ^ k) = false) (a : p m = true) (b : p (m + 1) = false) : m = bs p k n := by
  obtain ⟨c, d, _⟩ := bs_spec p hp k n h1 h2
  rcases Nat.lt_trichotomy m (bs p k n) with h | h | h
  · have := hp _ (m + 1) h c; rw [b] at this; cases this
  · exact h
  · have := hp _ (bs p k n + 1) h a; rw [d] at this; cases this
def rtC (n : Int) : Int := ((bs (fun m => decide ((m : Int) * m ≤ n)) 63 0 : Nat) : Int)
theorem rt_ex : ∃ f : Int → Int, f = rtC := ⟨_, rfl⟩
noncomputable def rt : Int → Int := Classical.choose rt_ex
theorem rt_C : rt = rtC := Classical.choose_spec rt_ex
noncomputable def rtUp (a how : Int) : Bool := if how = 2 then !(rt a * rt a == a) else if how = 3 then decide ((2 * rt a + 1) * (2 * rt a + 1) ≤ 4 * a) else false
noncomputable def rtN (a how : Int) : Int := rt a + (bif rtUp a how then 1 else 0)
def rootB (a how : Int) : Bool := okB a && wayB how
noncomputable def rootV (a how : Int) : Int := bif rootB a how then (bif ngB a then 0 else fxV false (rtN (a * 65536) how)) else 0
noncomputable def rootE (a how : Int) : Int := bif rootB a how then (bif ngB a then 11 else fxE (rtN (a * 65536) how)) else 2
def sq2 (x y : Int) : Int := ab x * ab x + ab y * ab y
def lenB (x y how : Int) : Bool := okB x && okB y && wayB how
noncomputable def lenV (x y how : Int) : Int := bif lenB x y how then fxV false (rtN (sq2 x y) how) else 0
noncomputable def lenE (x y how : Int) : Int := bif lenB x y how then fxE (rtN (sq2 x y) how) else 2
def shrC (x s : Int) : Int := ((bs (fun m => decide ((m : Int) * m * s ≤ 4294967296 * (x * x))) 17 0 : Nat) : Int)
theorem shr_ex : ∃ f : Int → Int → Int, f = shrC := ⟨_, rfl⟩
noncomputable def shr : Int → Int → Int := Classical.choose shr_ex
theorem shr_C : shr = shrC := Classical.choose_spec shr_ex
def uniB (x y : Int) : Bool := okB x && okB y
noncomputable def uniV (x y c : Int) : Int := bif uniB x y then (bif sq2 x y == 0 then 0 else sg (ngB c) (shr (ab c) (sq2 x y))) else 0
def uniE (x y : Int) : Int := bif uniB x y then (bif sq2 x y == 0 then 10 else 0) else 2
def dotS (x y u v : Int) : Int := x * u + y * v
def dotB (x y u v how : Int) : Bool := okB x && okB y && okB u && okB v && wayB how
def dotN (x y u v how : Int) : Int := rnd how (ngB (dotS x y u v)) (ab (dotS x y u v)) 65536
def dotV (x y u v how : Int) : Int := bif dotB x y u v how then fxV (ngB (dotS x y u v)) (dotN x y u v how) else 0
def dotE (x y u v how : Int) : Int := bif dotB x y u v how then fxE (dotN x y u v how) else 2
def cmp3 (a b : Int) : Int := if a < b then -1 else if b < a then 1 else 0
def sgn3 (a : Int) : Int := cmp3 a 0
def four (x y u v : Int) : Bool := okB x && okB y && okB u && okB v
def farV (x y u v : Int) : Int := bif four x y u v then cmp3 (sq2 x y) (sq2 u v) else 0
def fourE (x y u v : Int) : Int := bif four x y u v then 0 else 2
def trnV (x y u v : Int) : Int := bif four x y u v then sgn3 (x * v - y * u) else 0
def witB (x y r : Int) : Bool := okB x && okB y && okB r
def witV (x y r : Int) : Bool := bif witB x y r then decide (0 ≤ r) && decide (sq2 x y ≤ r * r) else false
def witE (x y r : Int) : Int := bif witB x y r then 0 else 2
def twoE (e f : Int) : Int := bif e == 2 || f == 2 then 2 else bif e == 0 && f == 0 then 0 else 4
def twoV (e f v : Int) : Int := bif e == 0 && f == 0 then v else 0
end Go.Proofs.YtgpljldfbhkdlaaGreat

namespace Go.Proofs.YtgpljldfbhkdlaaGreat
def dgF : Nat → Nat → List Int
  | 0, _ => []
  | f + 1, n => if n = 0 then [] else ((n % 32768 : Nat) : Int) :: dgF f (n / 32768)
def dg (n : Int) : List Int := dgF n.toNat n.toNat
def vl : List Int → Int
  | [] => 0
  | x :: r => x + 32768 * vl r
def low15 (l : List Int) : Prop := ∀ x ∈ l, 0 ≤ x ∧ x < 32768
theorem dgF_fuel : ∀ (f g n : Nat), n ≤ f → n ≤ g → dgF f n = dgF g n
  | 0, 0, n, _, _ => rfl
  | 0, g + 1, n, h, _ => by simp [dgF, show n = 0 by omega]
  | f + 1, 0, n, _, h => by simp [dgF, show n = 0 by omega]
  | f + 1, g + 1, n, h1, h2 => by
    simp only [dgF]
    split
    · rfl
    · rw [dgF_fuel f g (n / 32768) (by omega) (by omega)]
theorem dg_zero : dg 0 = [] := rfl
theorem dg_pos {n : Int} (h : 0 < n) : dg n = n % 32768 :: dg (n / 32768) := by
  unfold dg
  obtain ⟨m, hm⟩ : ∃ m, n.toNat = m + 1 := ⟨n.toNat - 1, by omega⟩
  have e : (n / 32768).toNat = (m + 1) / 32768 := by omega
  rw [hm, e]
  simp only [dgF, Nat.succ_ne_zero, if_false]
  rw [dgF_fuel m ((m + 1) / 32768) _ (by omega) (Nat.le_refl _), show n % 32768 = (((m + 1) % 32768 : Nat) : Int) by omega]
theorem dg_cons {x n : Int} (hx : 0 ≤ x ∧ x < 32768) (hn : 0 ≤ n) (h : 0 < x + 32768 * n) : dg (x + 32768 * n) = x :: dg n := by
  rw [dg_pos h, show (x + 32768 * n) % 32768 = x by omega, show (x + 32768 * n) / 32768 = n by omega]
theorem dg_ind {P : Int → Prop} (h0 : P 0) (h1 : ∀ n, 0 < n → P (n / 32768) → P n) : ∀ n, 0 ≤ n → P n := by
  have key : ∀ (m : Nat) (n : Int), 0 ≤ n → n ≤ m → P n := fun m => by
    induction m with
    | zero => intro n a b; rw [show n = 0 by omega]; exact h0
    | succ m ih =>
      intro n a b
      rcases Int.lt_or_le 0 n with hp | hp
      · exact h1 n hp (ih _ (by omega) (by omega))
      · rw [show n = 0 by omega]; exact h0
  exact fun n hn => key n.toNat n hn (by omega)
theorem vl_dg : ∀ n, 0 ≤ n → vl (dg n) = n := dg_ind rfl fun n h ih => by
  rw [dg_pos h]
  simp only [vl, ih]
  omega
theorem low_dg : ∀ n, 0 ≤ n → low15 (dg n) := dg_ind (fun x hx => by cases hx) fun n h ih => by
  rw [dg_pos h]
  intro x hx
  rcases List.mem_cons.1 hx with rfl | hx
  · omega
  · exact ih x hx
theorem low_tail {x : Int} {r : List Int} (h : low15 (x :: r)) : (0 ≤ x ∧ x < 32768) ∧ low15 r := ⟨h x (by simp), fun y hy => h y (by simp [hy])⟩
theorem vl_nn : ∀ {l : List Int}, low15 l → 0 ≤ vl l
  | [], _ => Int.le_refl 0
  | x :: r, h => by
    have := vl_nn (low_tail h).2
    have := (low_tail h).1
    simp only [vl]; omega
def trimL : List Int → List Int
  | [] => []
  | x :: r => match trimL r with
    | [] => if x = 0 then [] else [x]
    | l => x :: l
theorem dg_vl : ∀ {l : List Int}, low15 l → dg (vl l) = trimL l
  | [], _ => rfl
  | x :: r, h => by
    have h1 := (low_tail h).1
    have h2 := (low_tail h).2
    have ih := dg_vl h2
    have hn := vl_nn h2
    simp only [trimL, vl]
    split
    · rename_i e
      rw [e] at ih
      have hz : vl r = 0 := by have := vl_dg _ hn; rw [ih] at this; exact this.symm
      split
      · rename_i hx; rw [hx, hz]; rfl
      · rename_i hx
        rw [dg_cons h1 hn (by omega), ih]
    · rename_i hne
      have hp : 0 < vl r := by
        rcases Int.lt_or_le 0 (vl r) with hp | hp
        · exact hp
        · exfalso
          have hz : vl r = 0 := by omega
          rw [hz] at ih
          exact hne (by rw [← ih]; rfl)
      rw [dg_cons h1 hn (by omega), ih]
def isDg (l : List Int) : Bool := l == dg (vl l) && decide (0 ≤ vl l)
theorem isDg_dg {n : Int} (h : 0 ≤ n) : isDg (dg n) = true := by
  simp only [isDg, vl_dg n h, beq_self_eq_true, decide_eq_true h, Bool.and_self]
theorem isDg_iff {l : List Int} : isDg l = true ↔ l = dg (vl l) ∧ 0 ≤ vl l := by simp [isDg]
theorem dg_inj {a b : Int} (ha : 0 ≤ a) (hb : 0 ≤ b) (h : dg a = dg b) : a = b := by rw [← vl_dg a ha, ← vl_dg b hb, h]
theorem dg_nil {n : Int} (h : 0 ≤ n) : dg n = [] ↔ n = 0 := ⟨fun e => dg_inj h (Int.le_refl 0) (e.trans dg_zero.symm), fun e => by rw [e]; rfl⟩
theorem vl_append (l : List Int) (x : Int) : vl (l ++ [x]) = vl l + x * 32768 ^ l.length := by
  induction l with
  | nil => simp [vl]
  | cons a r ih => simp only [List.cons_append, vl, ih, List.length_cons, Int.pow_succ]; rw [Int.mul_add, Int.add_assoc, ← Int.mul_assoc 32768 x, Int.mul_comm 32768 x, Int.mul_assoc, Int.mul_comm (32768 ^ r.length)]
theorem vl_take (l : List Int) (i : Nat) (h : i < l.length) : vl (l.take (i + 1)) = vl (l.take i) + l.getD i 0 * 32768 ^ i := by
  rw [List.take_add_one, List.getElem?_eq_getElem h]
  simp only [Option.toList]
  rw [vl_append, List.length_take, Nat.min_eq_left (Nat.le_of_lt h)]
  simp [h]
theorem vl_set : ∀ (l : List Int) (i : Nat) (x : Int), i < l.length → vl (l.set i x) = vl l + (x - l.getD i 0) * 32768 ^ i
  | [], i, x, h => by simp at h
  | a :: r, 0, x, h => by simp [vl]; omega
  | a :: r, i + 1, x, h => by
    have ih := vl_set r i x (by simpa using h)
    simp only [List.set_cons_succ, vl, ih, List.getD_cons_succ, Int.pow_succ]
    rw [Int.mul_add, ← Int.add_assoc, Int.mul_left_comm, Int.mul_comm 32768 (32768 ^ i)]
theorem vl_zeros (n : Nat) : vl (List.replicate n 0) = 0 := by
  induction n with
  | zero => rfl
  | succ n ih => simp [List.replicate_succ, vl, ih]
theorem vl_lt : ∀ {l : List Int}, low15 l → vl l < 32768 ^ l.length
  | [], _ => by simp [vl]
  | x :: r, h => by
    have := vl_lt (low_tail h).2
    have := (low_tail h).1
    simp only [vl, List.length_cons, Int.pow_succ]
    omega
theorem pow15 (n : Nat) : (0 : Int) < 32768 ^ n := Int.pow_pos (by decide)
theorem low_app {l : List Int} {x : Int} (h : low15 l) (hx : 0 ≤ x ∧ x < 32768) : low15 (l ++ [x]) := fun y hy => by
  rcases List.mem_append.1 hy with hy | hy
  · exact h y hy
  · simp at hy; subst hy; exact hx
theorem low_set {l : List Int} {i : Nat} {x : Int} (h : low15 l) (hx : 0 ≤ x ∧ x < 32768) : low15 (l.set i x) := fun y hy => by
  rcases List.mem_or_eq_of_mem_set hy with hy | hy
  · exact h y hy
  · subst hy; exact hx
theorem low_get {l : List Int} (h : low15 l) (i : Nat) : 0 ≤ l.getD i 0 ∧ l.getD i 0 < 32768 := by
  rcases Nat.lt_or_ge i l.length with hi | hi
  · rw [List.getD_eq_getElem?_getD, List.getElem?_eq_getElem hi]; exact h _ (List.getElem_mem hi)
  · rw [List.getD_eq_getElem?_getD, List.getElem?_eq_none hi]; simp
end Go.Proofs.YtgpljldfbhkdlaaGreat

namespace Go.Proofs.YtgpljldfbhkdlaaGreat
open Go.RowKit
theorem mixedT : Tryz.prog.follows .mixedOrders = true := by kernel_rfl
theorem cond_bind {α β : Type} (c : Bool) (x y : Option α) (k : α → Option β) : (bif c then x else y).bind k = bif c then x.bind k else y.bind k := by cases c <;> rfl
theorem ite_bind {α β : Type} (c : Prop) [Decidable c] (x y : Option α) (k : α → Option β) : (if c then x else y).bind k = if c then x.bind k else y.bind k := by split <;> rfl
noncomputable def twT (fs : FuncId → Option Fsp) (sp : FuncId → Option (Cv → Cv)) : Tower := ⟨fs, fun _ => true, sp, lookF fnsT⟩
def SpOk (sp : FuncId → Option (Cv → Cv)) : Prop := ∀ f S, sp f = some S → ∀ cv, CvOk Tryz.prog cv → ∀ caps, CvAt Tryz.prog (S cv) (.fn f caps)
def FsOk (fs : FuncId → Option Fsp) : Prop := ∀ f S, fs f = some S → FspOk Tryz.prog f S
theorem twT_ok {fs : FuncId → Option Fsp} {sp : FuncId → Option (Cv → Cv)} (h : FsOk fs) (hs : SpOk sp) : TwOk Tryz.prog (twT fs sp) := ⟨h, hs, look_ok fnsT_ok⟩
theorem fs_nil : FsOk fun _ => none := fun f S h => by cases h
theorem fs_cons {fs : FuncId → Option Fsp} {f : FuncId} {S : Fsp} (h : FspOk Tryz.prog f S) (hE : FsOk fs) : FsOk fun g => if g = f then some S else fs g := fun g S' hg => by
  dsimp only at hg
  split at hg
  · rename_i e; cases hg; subst e; exact h
  · exact hE g S' hg
theorem sp_nil : SpOk fun _ => none := fun f S h => by cases h
theorem sp_cons {sp : FuncId → Option (Cv → Cv)} {f : FuncId} {S : Cv → Cv} (h : ∀ cv, CvOk Tryz.prog cv → ∀ caps, CvAt Tryz.prog (S cv) (.fn f caps)) (hE : SpOk sp) : SpOk fun g => if g = f then some S else sp g := fun g S' hg => by
  dsimp only at hg
  split at hg
  · rename_i e; cases hg; subst e; exact h
  · exact hE g S' hg
theorem tower_S {fs : FuncId → Option Fsp} {sp : FuncId → Option (Cv → Cv)} (h : FsOk fs) (hs : SpOk sp) {f : FuncId} {fn : Func} (hf : FnOk Tryz.prog f fn) {S : Fsp}
    (hn : ∀ (α : Type) args (k : AOut → Option α), S α args k = (S AOut args some).bind k)
    (hS : ∀ args out, (∀ c ∈ args, Sm c) → S AOut args some = some out → ∃ N n, evFn real tab ((twT fs sp).env real tab N n) N fn AOut args some = some out) : FspOk Tryz.prog f S where
  enter := hf.enter
  nat := hn
  calls := fun args out hout M w cargs hM hl hr => by
    have hsm : ∀ c ∈ args, Sm c := fun c hc => by
      obtain ⟨j, hj, rfl⟩ := List.mem_iff_getElem.1 hc
      exact (hr j _ _ (List.getElem?_eq_getElem hj) (Array.getElem?_eq_getElem (by omega))).sm
    obtain ⟨N, n, hN⟩ := hS args out hsm hout
    exact (fn_ok mixedT tabOk (tower_ok mixedT tabOk (twT_ok h hs) N n) N hf.get hf.enter).calls args out hN M w cargs hM hl hr
def cloneB (g : Nat) : Bool :=
  if g = 2000000 + 68 then true else
  if g = 2000000 + 123 then true else
  false
noncomputable def twY (fs : FuncId → Option Fsp) (sp : FuncId → Option (Cv → Cv)) : Tower := ⟨fs, fun g => !(g == 999961 || cloneB g), sp, lookF fnsT⟩
theorem twY_ok {fs : FuncId → Option Fsp} {sp : FuncId → Option (Cv → Cv)} (h : FsOk fs) (hs : SpOk sp) : TwOk Tryz.prog (twY fs sp) := ⟨h, hs, look_ok fnsT_ok⟩
theorem tower_Y {fs : FuncId → Option Fsp} {sp : FuncId → Option (Cv → Cv)} (h : FsOk fs) (hs : SpOk sp) {f : FuncId} {fn : Func} (hf : FnOk Tryz.prog f fn) {S : Fsp}
    (hn : ∀ (α : Type) args (k : AOut → Option α), S α args k = (S AOut args some).bind k)
    (hS : ∀ args out, (∀ c ∈ args, Sm c) → S AOut args some = some out → ∃ N n, evFn real tab ((twY fs sp).env real tab N n) N fn AOut args some = some out) : FspOk Tryz.prog f S where
  enter := hf.enter
  nat := hn
  calls := fun args out hout M w cargs hM hl hr => by
    have hsm : ∀ c ∈ args, Sm c := fun c hc => by
      obtain ⟨j, hj, rfl⟩ := List.mem_iff_getElem.1 hc
      exact (hr j _ _ (List.getElem?_eq_getElem hj) (Array.getElem?_eq_getElem (by omega))).sm
    obtain ⟨N, n, hN⟩ := hS args out hsm hout
    exact (fn_ok mixedT tabOk (tower_ok mixedT tabOk (twY_ok h hs) N n) N hf.get hf.enter).calls args out hN M w cargs hM hl hr
/-! As twY; rows that the call of a contract gives up stay readable. -/
noncomputable def twV (fs : FuncId → Option Fsp) (sp : FuncId → Option (Cv → Cv)) : Tower := ⟨fs, fun g => !(g == 999961 || g == 999953 || cloneB g), sp, lookF fnsT⟩
theorem twV_ok {fs : FuncId → Option Fsp} {sp : FuncId → Option (Cv → Cv)} (h : FsOk fs) (hs : SpOk sp) : TwOk Tryz.prog (twV fs sp) := ⟨h, hs, look_ok fnsT_ok⟩
theorem tower_V {fs : FuncId → Option Fsp} {sp : FuncId → Option (Cv → Cv)} (h : FsOk fs) (hs : SpOk sp) {f : FuncId} {fn : Func} (hf : FnOk Tryz.prog f fn) {S : Fsp}
    (hn : ∀ (α : Type) args (k : AOut → Option α), S α args k = (S AOut args some).bind k)
    (hS : ∀ args out, (∀ c ∈ args, Sm c) → S AOut args some = some out → ∃ N n, evFn real tab ((twV fs sp).env real tab N n) N fn AOut args some = some out) : FspOk Tryz.prog f S where
  enter := hf.enter
  nat := hn
  calls := fun args out hout M w cargs hM hl hr => by
    have hsm : ∀ c ∈ args, Sm c := fun c hc => by
      obtain ⟨j, hj, rfl⟩ := List.mem_iff_getElem.1 hc
      exact (hr j _ _ (List.getElem?_eq_getElem hj) (Array.getElem?_eq_getElem (by omega))).sm
    obtain ⟨N, n, hN⟩ := hS args out hsm hout
    exact (fn_ok mixedT tabOk (tower_ok mixedT tabOk (twV_ok h hs) N n) N hf.get hf.enter).calls args out hN M w cargs hM hl hr
/-! As twV; rows that append makes are memory that stays. -/
noncomputable def twW (fs : FuncId → Option Fsp) (sp : FuncId → Option (Cv → Cv)) : Tower := ⟨fs, fun g => !(g == 999961 || g == 999953 || g == 999949 || cloneB g), sp, lookF fnsT⟩
theorem twW_ok {fs : FuncId → Option Fsp} {sp : FuncId → Option (Cv → Cv)} (h : FsOk fs) (hs : SpOk sp) : TwOk Tryz.prog (twW fs sp) := ⟨h, hs, look_ok fnsT_ok⟩
theorem tower_W {fs : FuncId → Option Fsp} {sp : FuncId → Option (Cv → Cv)} (h : FsOk fs) (hs : SpOk sp) {f : FuncId} {fn : Func} (hf : FnOk Tryz.prog f fn) {S : Fsp}
    (hn : ∀ (α : Type) args (k : AOut → Option α), S α args k = (S AOut args some).bind k)
    (hS : ∀ args out, (∀ c ∈ args, Sm c) → S AOut args some = some out → ∃ N n, evFn real tab ((twW fs sp).env real tab N n) N fn AOut args some = some out) : FspOk Tryz.prog f S where
  enter := hf.enter
  nat := hn
  calls := fun args out hout M w cargs hM hl hr => by
    have hsm : ∀ c ∈ args, Sm c := fun c hc => by
      obtain ⟨j, hj, rfl⟩ := List.mem_iff_getElem.1 hc
      exact (hr j _ _ (List.getElem?_eq_getElem hj) (Array.getElem?_eq_getElem (by omega))).sm
    obtain ⟨N, n, hN⟩ := hS args out hsm hout
    exact (fn_ok mixedT tabOk (tower_ok mixedT tabOk (twW_ok h hs) N n) N hf.get hf.enter).calls args out hN M w cargs hM hl hr
/-! As twY; nil slices in values that are built become rows. -/
noncomputable def twN (fs : FuncId → Option Fsp) (sp : FuncId → Option (Cv → Cv)) : Tower := ⟨fs, fun g => !(g == 999961 || g == 999947 || cloneB g), sp, lookF fnsT⟩
theorem twN_ok {fs : FuncId → Option Fsp} {sp : FuncId → Option (Cv → Cv)} (h : FsOk fs) (hs : SpOk sp) : TwOk Tryz.prog (twN fs sp) := ⟨h, hs, look_ok fnsT_ok⟩
theorem tower_N {fs : FuncId → Option Fsp} {sp : FuncId → Option (Cv → Cv)} (h : FsOk fs) (hs : SpOk sp) {f : FuncId} {fn : Func} (hf : FnOk Tryz.prog f fn) {S : Fsp}
    (hn : ∀ (α : Type) args (k : AOut → Option α), S α args k = (S AOut args some).bind k)
    (hS : ∀ args out, (∀ c ∈ args, Sm c) → S AOut args some = some out → ∃ N n, evFn real tab ((twN fs sp).env real tab N n) N fn AOut args some = some out) : FspOk Tryz.prog f S where
  enter := hf.enter
  nat := hn
  calls := fun args out hout M w cargs hM hl hr => by
    have hsm : ∀ c ∈ args, Sm c := fun c hc => by
      obtain ⟨j, hj, rfl⟩ := List.mem_iff_getElem.1 hc
      exact (hr j _ _ (List.getElem?_eq_getElem hj) (Array.getElem?_eq_getElem (by omega))).sm
    obtain ⟨N, n, hN⟩ := hS args out hsm hout
    exact (fn_ok mixedT tabOk (tower_ok mixedT tabOk (twN_ok h hs) N n) N hf.get hf.enter).calls args out hN M w cargs hM hl hr
noncomputable def evC (fs : FuncId → Option Fsp) (sp : FuncId → Option (Cv → Cv)) (N n : Nat) (fn : Func) : Fsp := evFn real tab ((twT fs sp).env real tab N n) N fn
theorem evC_ok {fs : FuncId → Option Fsp} {sp : FuncId → Option (Cv → Cv)} (h : FsOk fs) (hs : SpOk sp) {f : FuncId} {fn : Func} (hf : FnOk Tryz.prog f fn) (N n : Nat) : FspOk Tryz.prog f (evC fs sp N n fn) :=
  fn_ok mixedT tabOk (tower_ok mixedT tabOk (twT_ok h hs) N n) N hf.get hf.enter
def mis (t : TypeId) (e : Int) : AOut := .pan (.ifc t (.agg [.int .i64 e]))
abbrev iN (n : Int) : AVal := .int .i64 n
abbrev uN (n : Int) : AVal := .int .u64 n
abbrev bN (b : Bool) : AVal := .bool b
abbrev sN (x y : Int) : AVal := .agg [.int .i64 x, .int .i64 y]
def i1 (n : Int) : AOut := .ret (.int .i64 n)
def b1 (b : Bool) : AOut := .ret (.bool b)
def i2 (n e : Int) : AOut := .ret (.tup [.int .i64 n, .int .i64 e])
def b2 (b : Bool) (e : Int) : AOut := .ret (.tup [.bool b, .int .i64 e])
def s2 (x y e : Int) : AOut := .ret (.tup [.agg [.int .i64 x, .int .i64 y], .int .i64 e])
def t0 : AOut := .ret (.tup [])
def fxm : TypeId := 154
end Go.Proofs.YtgpljldfbhkdlaaGreat

namespace Go.Proofs.YtgpljldfbhkdlaaGreat
theorem vl_split : ∀ (l : List Int) (i : Nat), i ≤ l.length → vl l = vl (l.take i) + 32768 ^ i * vl (l.drop i)
  | l, 0, _ => by simp [vl]
  | [], i + 1, h => by simp at h
  | x :: r, i + 1, h => by
    have ih := vl_split r i (by simpa using h)
    simp only [List.take_succ_cons, List.drop_succ_cons, vl, Int.pow_succ]
    rw [ih, Int.mul_add, Int.mul_comm (32768 ^ i) 32768, Int.mul_assoc]
    omega
theorem low_take {l : List Int} (h : low15 l) (i : Nat) : low15 (l.take i) := fun x hx => h x (List.mem_of_mem_take hx)
theorem low_drop {l : List Int} (h : low15 l) (i : Nat) : low15 (l.drop i) := fun x hx => h x (List.mem_of_mem_drop hx)
theorem dg_ge : ∀ n, 0 ≤ n → n ≠ 0 → 32768 ^ ((dg n).length - 1) ≤ n := dg_ind (fun h => absurd rfl h) fun n h ih _ => by
  rw [dg_pos h]
  simp only [List.length_cons, Nat.add_sub_cancel]
  by_cases hz : n / 32768 = 0
  · rw [hz, dg_zero]; simp; omega
  · have h1 := ih hz
    have hne : dg (n / 32768) ≠ [] := fun e => hz ((dg_nil (by omega)).1 e)
    obtain ⟨m, hm⟩ : ∃ m, (dg (n / 32768)).length = m + 1 := ⟨(dg (n / 32768)).length - 1, by have := List.length_pos_iff.2 hne; omega⟩
    rw [hm] at h1 ⊢
    simp only [Nat.add_sub_cancel] at h1
    rw [Int.pow_succ]
    omega
theorem dg_lt (n : Int) (h : 0 ≤ n) : n < 32768 ^ (dg n).length := by
  have := vl_lt (low_dg n h)
  rw [vl_dg n h] at this
  exact this
theorem pow_mono {i j : Nat} (h : i ≤ j) : (32768 : Int) ^ i ≤ 32768 ^ j := by
  obtain ⟨k, rfl⟩ : ∃ k, j = i + k := ⟨j - i, by omega⟩
  rw [Int.pow_add]
  have h1 := pow15 i
  have h2 := pow15 k
  have := Int.mul_le_mul_of_nonneg_left (show 1 ≤ (32768 : Int) ^ k by omega) (Int.le_of_lt h1)
  omega
theorem dg_len_lt {a b : Int} (ha : 0 ≤ a) (hb : 0 ≤ b) (h : (dg a).length < (dg b).length) : a < b := by
  have h1 := dg_lt a ha
  have hz : b ≠ 0 := fun e => by subst e; simp [dg_zero] at h
  have h2 := dg_ge b hb hz
  have := pow_mono (show (dg a).length ≤ (dg b).length - 1 by omega)
  omega
theorem dg_top {a b : Int} (ha : 0 ≤ a) (hb : 0 ≤ b) {i : Nat} (hia : i < (dg a).length) (hib : i < (dg b).length) (he : (dg a).drop (i + 1) = (dg b).drop (i + 1)) (h : (dg a).getD i 0 < (dg b).getD i 0) : a < b := by
  have s1 := vl_split (dg a) (i + 1) (by omega)
  have s2 := vl_split (dg b) (i + 1) (by omega)
  rw [vl_dg a ha] at s1
  rw [vl_dg b hb, ← he] at s2
  rw [vl_take _ _ hia] at s1
  rw [vl_take _ _ hib] at s2
  have t1 := vl_lt (low_take (low_dg a ha) i)
  have t2 := vl_nn (low_take (low_dg b hb) i)
  rw [List.length_take, Nat.min_eq_left (by omega)] at t1
  have := Int.mul_le_mul_of_nonneg_right (show (dg a).getD i 0 + 1 ≤ (dg b).getD i 0 by omega) (Int.le_of_lt (pow15 i))
  rw [Int.add_mul] at this
  omega
theorem dg_eq {a b : Int} (ha : 0 ≤ a) (hb : 0 ≤ b) (h : dg a = dg b) : a = b := dg_inj ha hb h
theorem trim_dg {l : List Int} (h : low15 l) : trimL l = dg (vl l) := (dg_vl h).symm
theorem vl_app (l m : List Int) : vl (l ++ m) = vl l + 32768 ^ l.length * vl m := by
  have := vl_split (l ++ m) l.length (by simp)
  rw [List.take_left', List.drop_left'] at this
  · exact this
  · rfl
  · rfl
theorem dg_snoc {l : List Int} {x : Int} (hl : low15 l) (hx : 0 < x ∧ x < 32768) : dg (vl l + x * 32768 ^ l.length) = l ++ [x] := by
  rw [← vl_append]
  have h2 : low15 (l ++ [x]) := low_app hl ⟨by omega, hx.2⟩
  rw [dg_vl h2]
  clear hl h2
  induction l with
  | nil => simp [trimL]; omega
  | cons a r ih =>
    simp only [List.cons_append, trimL, ih]
    split
    · rename_i e; exact absurd e (by simp)
    · rfl
end Go.Proofs.YtgpljldfbhkdlaaGreat

namespace Go.Proofs.YtgpljldfbhkdlaaGreat
/-! Products. -/
def inC (x : Int) (b : List Int) (i : Nat) (s : Int × List Int) (k : Nat) : Int := s.1 + s.2.getD (i + k) 0 + x * b.getD k 0
def inSt (x : Int) (b : List Int) (i : Nat) (out : List Int) : Nat → Int × List Int
  | 0 => (0, out)
  | k + 1 => (inC x b i (inSt x b i out k) k / 32768, (inSt x b i out k).2.set (i + k) (inC x b i (inSt x b i out k) k % 32768))
structure InIs (x : Int) (b : List Int) (i : Nat) (out : List Int) (k : Nat) : Prop where
  len : (inSt x b i out k).2.length = out.length
  low : low15 (inSt x b i out k).2
  c : 0 ≤ (inSt x b i out k).1 ∧ (inSt x b i out k).1 < 32768
  vl : vl (inSt x b i out k).2 + (inSt x b i out k).1 * 32768 ^ (i + k) = vl out + x * vl (b.take k) * 32768 ^ i
  rest : ∀ j, i + k ≤ j → (inSt x b i out k).2.getD j 0 = out.getD j 0
theorem inC_in {x : Int} {b : List Int} {i : Nat} {out : List Int} (hx : 0 ≤ x ∧ x < 32768) (hb : low15 b) {k : Nat} (h : InIs x b i out k) : 0 ≤ inC x b i (inSt x b i out k) k ∧ inC x b i (inSt x b i out k) k < 1073741824 := by
  have h1 := h.c
  have h2 := low_get h.low (i + k)
  have h3 := low_get hb k
  have h4 : 0 ≤ x * b.getD k 0 := Int.mul_nonneg hx.1 h3.1
  have h5 : x * b.getD k 0 ≤ 32767 * 32767 := Int.mul_le_mul (by omega) (by omega) h3.1 (by omega)
  unfold inC
  omega
theorem in_is {x : Int} {b : List Int} {i : Nat} {out : List Int} (hx : 0 ≤ x ∧ x < 32768) (hb : low15 b) (ho : low15 out) (hl : i + b.length < out.length) : ∀ k, k ≤ b.length → InIs x b i out k
  | 0, _ => ⟨rfl, ho, by simp [inSt], by simp [inSt, vl], fun j _ => rfl⟩
  | k + 1, hk => by
    have h := in_is hx hb ho hl k (by omega)
    have hc := inC_in hx hb h
    have hlen := h.len
    refine ⟨by simp [inSt, hlen], ?_, ?_, ?_, fun j hj => ?_⟩
    · exact low_set h.low (by omega)
    · simp only [inSt]; omega
    · simp only [inSt]
      rw [vl_set _ _ _ (by omega), vl_take _ _ (by omega)]
      have hv := h.vl
      have e : inC x b i (inSt x b i out k) k % 32768 = inC x b i (inSt x b i out k) k - 32768 * (inC x b i (inSt x b i out k) k / 32768) := by omega
      rw [e]
      generalize hq : inC x b i (inSt x b i out k) k / 32768 = q
      have ec : inC x b i (inSt x b i out k) k = (inSt x b i out k).1 + (inSt x b i out k).2.getD (i + k) 0 + x * b.getD k 0 := rfl
      rw [ec]
      have p1 : (32768 : Int) ^ (i + (k + 1)) = 32768 ^ (i + k) * 32768 := by rw [← Nat.add_assoc, Int.pow_succ]
      have p2 : (32768 : Int) ^ (i + k) = 32768 ^ k * 32768 ^ i := by rw [Nat.add_comm, Int.pow_add]
      rw [p1]
      have e3 : x * (vl (b.take k) + b.getD k 0 * 32768 ^ k) * 32768 ^ i = x * vl (b.take k) * 32768 ^ i + x * b.getD k 0 * 32768 ^ (i + k) := by
        rw [p2, Int.mul_add, Int.add_mul]; simp only [Int.mul_assoc]
      rw [e3, ← Int.add_assoc, ← hv]
      generalize (32768 : Int) ^ (i + k) = P
      generalize (inSt x b i out k).2.getD (i + k) 0 = o
      generalize x * b.getD k 0 = m
      generalize (inSt x b i out k).1 = c
      have e4 : (c + o + m - 32768 * q - o) * P + q * (P * 32768) = c * P + m * P := by
        have : c + o + m - 32768 * q - o = c + m - 32768 * q := by omega
        rw [this, Int.sub_mul, Int.add_mul, Int.mul_comm P 32768, ← Int.mul_assoc q, Int.mul_comm q 32768]
        omega
      rw [Int.add_assoc, e4]; omega
    · simp only [inSt]
      rw [List.getD_eq_getElem?_getD, List.getElem?_set_ne (by omega), ← List.getD_eq_getElem?_getD]
      exact h.rest j (by omega)
def outSt (a b : List Int) : Nat → List Int
  | 0 => List.replicate (a.length + b.length) 0
  | i + 1 => (inSt (a.getD i 0) b i (outSt a b i) b.length).2.set (i + b.length) (inSt (a.getD i 0) b i (outSt a b i) b.length).1
structure OutIs (a b : List Int) (i : Nat) : Prop where
  len : (outSt a b i).length = a.length + b.length
  low : low15 (outSt a b i)
  vl : vl (outSt a b i) = vl (a.take i) * vl b
  rest : ∀ j, i + b.length ≤ j → (outSt a b i).getD j 0 = 0
theorem out_is {a b : List Int} (ha : low15 a) (hb : low15 b) : ∀ i, i ≤ a.length → OutIs a b i
  | 0, _ => ⟨by simp [outSt], fun x hx => by simp [outSt] at hx; omega, by simp [outSt, vl_zeros, vl], fun j hj => by simp [outSt, List.getD_eq_getElem?_getD, List.getElem?_replicate]; split <;> rfl⟩
  | i + 1, hi => by
    have h := out_is ha hb i (by omega)
    have hlen := h.len
    have k := in_is (low_get ha i) hb h.low (i := i) (by omega) b.length (Nat.le_refl _)
    have hr := k.rest (i + b.length) (Nat.le_refl _)
    rw [h.rest _ (Nat.le_refl _)] at hr
    have kl := k.len
    refine ⟨by simp only [outSt, List.length_set, kl, hlen], low_set k.low k.c, ?_, fun j hj => ?_⟩
    · simp only [outSt]
      rw [vl_set _ _ _ (by omega), hr, Int.sub_zero, k.vl, List.take_length, h.vl, vl_take _ _ (by omega), Int.add_mul]
      rw [Int.mul_assoc (a.getD i 0) (32768 ^ i), Int.mul_comm (32768 ^ i) (vl b), Int.mul_assoc]
    · simp only [outSt]
      rw [List.getD_eq_getElem?_getD, List.getElem?_set_ne (by omega), ← List.getD_eq_getElem?_getD, k.rest j (by omega)]
      exact h.rest j (by omega)
theorem out_dg {a b : List Int} (ha : isDg a = true) (hb : isDg b = true) : trimL (outSt a b a.length) = dg (vl a * vl b) := by
  rw [isDg_iff] at ha hb
  have la : low15 a := by rw [ha.1]; exact low_dg _ ha.2
  have lb : low15 b := by rw [hb.1]; exact low_dg _ hb.2
  have h := out_is la lb a.length (Nat.le_refl _)
  rw [trim_dg h.low, h.vl, List.take_length]
/-! Sums. -/
def plC (a b : List Int) (s : Int × List Int) (i : Nat) : Int := s.1 + a.getD i 0 + b.getD i 0
def plSt (a b : List Int) : Nat → Int × List Int
  | 0 => (0, [])
  | i + 1 => (plC a b (plSt a b i) i / 32768, (plSt a b i).2 ++ [plC a b (plSt a b i) i % 32768])
structure PlIs (a b : List Int) (i : Nat) : Prop where
  len : (plSt a b i).2.length = i
  low : low15 (plSt a b i).2
  c : 0 ≤ (plSt a b i).1 ∧ (plSt a b i).1 ≤ 1
  vl : vl (plSt a b i).2 + (plSt a b i).1 * 32768 ^ i = vl (a.take i) + vl (b.take i)
theorem vl_take' (l : List Int) (i : Nat) : vl (l.take (i + 1)) = vl (l.take i) + l.getD i 0 * 32768 ^ i := by
  rcases Nat.lt_or_ge i l.length with h | h
  · exact vl_take l i h
  · rw [List.take_of_length_le (by omega), List.take_of_length_le h, List.getD_eq_getElem?_getD, List.getElem?_eq_none h]; simp
theorem pl_is {a b : List Int} (ha : low15 a) (hb : low15 b) : ∀ i, PlIs a b i
  | 0 => ⟨rfl, fun x hx => by simp [plSt] at hx, by simp [plSt], by simp [plSt, vl]⟩
  | i + 1 => by
    have h := pl_is ha hb i
    have h1 := h.c
    have h2 := low_get ha i
    have h3 := low_get hb i
    have hl := h.len
    have hc : 0 ≤ plC a b (plSt a b i) i ∧ plC a b (plSt a b i) i < 65536 := by unfold plC; omega
    refine ⟨by simp [plSt, hl], low_app h.low (by omega), by simp only [plSt]; omega, ?_⟩
    simp only [plSt]
    rw [vl_append, hl, vl_take', vl_take', Int.pow_succ]
    have hv := h.vl
    have e : plC a b (plSt a b i) i % 32768 = plC a b (plSt a b i) i - 32768 * (plC a b (plSt a b i) i / 32768) := by omega
    rw [e]
    have ec : plC a b (plSt a b i) i = (plSt a b i).1 + a.getD i 0 + b.getD i 0 := rfl
    generalize plC a b (plSt a b i) i / 32768 = q
    rw [ec]
    generalize (32768 : Int) ^ i = P at *
    generalize (plSt a b i).1 = c at *
    generalize a.getD i 0 = x
    generalize b.getD i 0 = y
    rw [Int.sub_mul, Int.add_mul, Int.add_mul, Int.mul_comm P 32768, ← Int.mul_assoc q, Int.mul_comm q 32768]
    omega
/-! Differences. -/
def mnD (a b : List Int) (s : Int × List Int) (i : Nat) : Int := a.getD i 0 - s.1 - b.getD i 0
def mnSt (a b : List Int) : Nat → Int × List Int
  | 0 => (0, [])
  | i + 1 => (if mnD a b (mnSt a b i) i < 0 then 1 else 0, (mnSt a b i).2 ++ [if mnD a b (mnSt a b i) i < 0 then mnD a b (mnSt a b i) i + 32768 else mnD a b (mnSt a b i) i])
structure MnIs (a b : List Int) (i : Nat) : Prop where
  len : (mnSt a b i).2.length = i
  low : low15 (mnSt a b i).2
  c : 0 ≤ (mnSt a b i).1 ∧ (mnSt a b i).1 ≤ 1
  vl : vl (mnSt a b i).2 - (mnSt a b i).1 * 32768 ^ i = vl (a.take i) - vl (b.take i)
theorem mn_is {a b : List Int} (ha : low15 a) (hb : low15 b) : ∀ i, MnIs a b i
  | 0 => ⟨rfl, fun x hx => by simp [mnSt] at hx, by simp [mnSt], by simp [mnSt, vl]⟩
  | i + 1 => by
    have h := mn_is ha hb i
    have h1 := h.c
    have h2 := low_get ha i
    have h3 := low_get hb i
    have hl := h.len
    have hd : -32768 ≤ mnD a b (mnSt a b i) i ∧ mnD a b (mnSt a b i) i < 32768 := by unfold mnD; omega
    have hv := h.vl
    refine ⟨by simp [mnSt, hl], low_app h.low (by split <;> omega), by simp only [mnSt]; split <;> omega, ?_⟩
    simp only [mnSt]
    rw [vl_append, hl, vl_take', vl_take', Int.pow_succ]
    have ec : mnD a b (mnSt a b i) i = a.getD i 0 - (mnSt a b i).1 - b.getD i 0 := rfl
    generalize mnD a b (mnSt a b i) i = D at *
    generalize (32768 : Int) ^ i = P at *
    generalize (mnSt a b i).1 = c at *
    generalize a.getD i 0 = x at *
    generalize b.getD i 0 = y at *
    have e : D * P = x * P - c * P - y * P := by rw [ec, Int.sub_mul, Int.sub_mul]
    split
    · rw [Int.add_mul, Int.one_mul, Int.mul_comm P]; omega
    · omega
theorem mn_dg {a b : Int} (hb : 0 ≤ b) (h : b ≤ a) : trimL (mnSt (dg a) (dg b) (dg a).length).2 = dg (a - b) := by
  have ha : 0 ≤ a := by omega
  have k := mn_is (low_dg a ha) (low_dg b hb) (dg a).length
  rw [trim_dg k.low]
  have hv := k.vl
  have hlen : (dg b).length ≤ (dg a).length := by
    rcases Nat.lt_or_ge (dg a).length (dg b).length with hlt | hge
    · have := dg_len_lt ha hb hlt; omega
    · exact hge
  rw [List.take_length, List.take_of_length_le hlen, vl_dg a ha, vl_dg b hb] at hv
  have hlt := vl_lt k.low
  rw [k.len] at hlt
  have hp := pow15 (dg a).length
  have hc := k.c
  have : (mnSt (dg a) (dg b) (dg a).length).1 = 0 := by
    rcases Int.lt_or_le 0 (mnSt (dg a) (dg b) (dg a).length).1 with h1 | h1
    · have e1 : (mnSt (dg a) (dg b) (dg a).length).1 = 1 := by omega
      rw [e1] at hv; omega
    · omega
  rw [this] at hv
  congr 1
  omega
end Go.Proofs.YtgpljldfbhkdlaaGreat

namespace Go.Proofs.YtgpljldfbhkdlaaGreat
def isD (l : List Int) : Bool := isDg l && decide (vl l < 1532495540865888858358347027150309183618739122183602176)
theorem isD_iff {l : List Int} : isD l = true ↔ l = dg (vl l) ∧ 0 ≤ vl l ∧ vl l < 1532495540865888858358347027150309183618739122183602176 := by
  simp only [isD, Bool.and_eq_true, isDg_iff, decide_eq_true_eq, and_assoc]
theorem isD_dg {n : Int} (h : 0 ≤ n ∧ n < 1532495540865888858358347027150309183618739122183602176) : isD (dg n) = true := by
  rw [isD_iff, vl_dg n h.1]; exact ⟨rfl, h⟩
theorem dg_len {n : Int} (h : 0 ≤ n ∧ n < 1532495540865888858358347027150309183618739122183602176) : (dg n).length ≤ 12 := by
  rcases Nat.lt_or_ge (dg n).length 13 with h1 | h1
  · omega
  · have hz : n ≠ 0 := fun e => by subst e; simp [dg_zero] at h1
    have h2 := dg_ge n h.1 hz
    have h3 := pow_mono (show 12 ≤ (dg n).length - 1 by omega)
    have h4 : (32768 : Int) ^ 12 = 1532495540865888858358347027150309183618739122183602176 := by decide
    omega
theorem isD_len {l : List Int} (h : isD l = true) : l.length ≤ 12 := by
  rw [isD_iff] at h
  rw [h.1]; exact dg_len h.2
theorem isD_low {l : List Int} (h : isD l = true) : low15 l := by
  rw [isD_iff] at h
  rw [h.1]; exact low_dg _ h.2.1
theorem isD_isDg {l : List Int} (h : isD l = true) : isDg l = true := by
  rw [isD_iff] at h; rw [isDg_iff]; exact ⟨h.1, h.2.1⟩
theorem trimL_app0 (l : List Int) : trimL (l ++ [0]) = trimL l := by
  induction l with
  | nil => rfl
  | cons a r ih => simp only [List.cons_append, trimL, ih]
theorem trimL_last (l : List Int) (x : Int) (h : x ≠ 0) : trimL (l ++ [x]) = l ++ [x] := by
  induction l with
  | nil => simp [trimL, h]
  | cons a r ih =>
    simp only [List.cons_append, trimL, ih]
    split
    · rename_i e; exact absurd e (by simp)
    · rfl
theorem low_trim {l : List Int} (h : low15 l) : low15 (trimL l) := by rw [trim_dg h]; exact low_dg _ (vl_nn h)
theorem vl_trim {l : List Int} (h : low15 l) : vl (trimL l) = vl l := by rw [trim_dg h]; exact vl_dg _ (vl_nn h)
end Go.Proofs.YtgpljldfbhkdlaaGreat

namespace Go.Proofs.YtgpljldfbhkdlaaGreat
open Go.RowKit
abbrev lN (l : List Int) : AVal := .ro (.int .i64) l
def l1 (l : List Int) : AOut := .ret (.ro (.int .i64) l)
theorem w64 (n : Int) (h : -9223372036854775808 ≤ n ∧ n ≤ 9223372036854775807) : IntKind.i64.wrap n = n := by rw [IntKind.wrap_i64]; omega
theorem mlx : maxLen = 9223372036854775807 := rfl
theorem roomx : room = 140737488355328 := rfl
theorem snoc_ind {P : List Int → Prop} (h0 : P []) (h1 : ∀ l y, P l → P (l ++ [y])) (l : List Int) : P l := by
  rw [← List.reverse_reverse l]
  induction l.reverse with
  | nil => exact h0
  | cons a r ih => rw [List.reverse_cons]; exact h1 _ _ ih
theorem dg_drop : ∀ (i : Nat) (n : Int), 0 ≤ n → (dg n).drop i = dg (n / 32768 ^ i)
  | 0, n, _ => by simp
  | i + 1, n, h => by
    rcases Int.lt_or_le 0 n with hp | hp
    · rw [dg_pos hp, List.drop_succ_cons, dg_drop i _ (by omega), Int.pow_succ, Int.mul_comm (32768 ^ i) 32768, Int.ediv_ediv_of_nonneg (by omega)]
    · have : n = 0 := by omega
      subst this
      simp [dg_zero]
def ofS : Fsp := fun _ args k => match args with
  | [.int .i64 n] => bif decide (0 ≤ n) && decide (n ≤ 9223372036854775807) then k (l1 (dg n)) else none
  | _ => none
theorem of_text (N n0 : Nat) (α : Type) (n : Int) (k : AOut → Option α) : evFn real tab ((twT (fun _ => none) (fun _ => none)).env real tab N n0) N Tryz.f139 α [iN n] k =
 afterL (iterL N (fun (x : List Int × Int × Unit) => bif decide (x.2.1 > 0) then if (x.1.length + [x.2.1.tmod 32768].length) * 8 ≤ room then some (LRes.cont (x.1 ++ [x.2.1.tmod
 32768], IntKind.i64.wrap (x.2.1.tdiv 32768), ())) else none else some (LRes.brk 0 (x.1, x.2.1, ()))) ([], n, ())) fun id y => if id = 0 then k (l1 y.1) else none := by kernel_rfl
theorem of_plain {α : Type} (n : Int) (h : 0 ≤ n ∧ n ≤ 9223372036854775807) (k : AOut → Option α) : evFn real tab ((twT (fun _ => none) (fun _ => none)).env real tab 20 0) 20 Tryz.f139 α [iN n] k = k (l1 (dg n)) := by
  rw [of_text]
  generalize hf : (fun x : List Int × Int × Unit => (_ : Option (LRes (List Int × Int × Unit) α))) = f
  have hlen := dg_len (n := n) ⟨h.1, by omega⟩
  have hz : n / 32768 ^ (dg n).length = 0 := by
    have := dg_drop (dg n).length n h.1
    rw [List.drop_length] at this
    exact (dg_nil (Int.ediv_nonneg h.1 (Int.le_of_lt (pow15 _)))).1 this.symm
  have e : iterL 20 f ([], n, ()) = some (.brk 0 (dg n, 0, ())) := by
    refine (congrArg (iterL 20 f) (by simp)).trans (iterL_count (f := f) (fun i : Nat => ((dg n).take i, n / 32768 ^ i, ())) (fun y e => by cases e) (dg n).length (fun i hi => ?_) ?_ 0 (Nat.zero_le _) 20 (by omega))
    · rw [← hf]
      have hm : 0 ≤ n / 32768 ^ i := Int.ediv_nonneg h.1 (Int.le_of_lt (pow15 i))
      have hd := dg_drop i n h.1
      have hne : n / 32768 ^ i ≠ 0 := fun e => by
        rw [e, dg_zero] at hd
        have := congrArg List.length hd
        simp at this; omega
      have hle : n / 32768 ^ i ≤ n := Int.ediv_le_self _ h.1
      rw [dg_pos (n := n / 32768 ^ i) (by omega)] at hd
      have hget : (dg n).getD i 0 = n / 32768 ^ i % 32768 := by
        have := congrArg (fun l => List.getD l 0 0) hd
        simpa [List.getD_eq_getElem?_getD] using this
      have ht : (dg n).take (i + 1) = (dg n).take i ++ [n / 32768 ^ i % 32768] := by
        rw [List.take_add_one, List.getElem?_eq_getElem hi, ← hget, List.getD_eq_getElem?_getD, List.getElem?_eq_getElem hi]
        rfl
      have e1 : (n / 32768 ^ i).tmod 32768 = n / 32768 ^ i % 32768 := Int.tmod_eq_emod_of_nonneg hm
      have e2 : (n / 32768 ^ i).tdiv 32768 = n / 32768 ^ i / 32768 := Int.tdiv_eq_ediv_of_nonneg hm
      simp only [decide_eq_true (show n / 32768 ^ i > 0 by omega), cond_true, e1, e2]
      rw [if_pos (by rw [roomx]; simp; omega), w64 _ (by omega), ← ht, Int.ediv_ediv_of_nonneg (Int.le_of_lt (pow15 i)), ← Int.pow_succ]
    · rw [← hf]
      simp only [hz, List.take_length]
      rfl
  rw [e]
  rfl
theorem ofS_ok : FspOk Tryz.prog 139 ofS := tower_S fs_nil sp_nil ⟨Tryz.func139, fun _ _ => by kernel_rfl⟩ (by intro α args k; unfold ofS; split <;> simp only [cond_bind, Option.bind_some, Option.bind_none]) fun args out hs h => by
  unfold ofS at h
  split at h
  · rename_i n
    cases hb : decide (0 ≤ n) && decide (n ≤ 9223372036854775807)
    · rw [hb] at h; cases h
    · rw [hb] at h
      simp only [Bool.and_eq_true, decide_eq_true_eq] at hb
      exact ⟨20, 0, (of_plain n hb some).trans h⟩
  · cases h
def trimS : Fsp := fun _ args k => match args with
  | [.ro (.int .i64) l] => k (l1 (trimL l))
  | _ => none
theorem trim_text (N n0 : Nat) (α : Type) (a : List Int) (k : AOut → Option α) : evFn real tab ((twT (fun _ => none) (fun _ => none)).env real tab N n0) N Tryz.f178 α [lN a] k =
 afterL (iterL N (fun (x : List Int × Unit) => bif decide ((x.1.length : Int) > 0) then if 0 ≤ IntKind.i64.wrap ((x.1.length : Int) - 1) ∧ IntKind.i64.wrap ((x.1.length : Int) - 1) <
 (x.1.length : Int) then bif x.1.getD (IntKind.i64.wrap ((x.1.length : Int) - 1)).toNat (Int.ofNat 0) == 0 then if 0 ≤ IntKind.i64.wrap ((x.1.length : Int) - 1) ∧ IntKind.i64.wrap
 ((x.1.length : Int) - 1) ≤ (x.1.length : Int) then some (LRes.cont (List.take (IntKind.i64.wrap ((x.1.length : Int) - 1)).toNat x.1, ())) else none else some (LRes.brk 0 (x.1, ()))
 else none else some (LRes.brk 0 (x.1, ()))) (a, ())) fun id y => if id = 0 then k (l1 y.1) else none := by kernel_rfl
theorem trim_plain {α : Type} (a : List Int) (hl : a.length ≤ maxLen) (k : AOut → Option α) : evFn real tab ((twT (fun _ => none) (fun _ => none)).env real tab (a.length + 1) 0) (a.length + 1) Tryz.f178 α [lN a] k = k (l1 (trimL a)) := by
  rw [trim_text]
  generalize hf : (fun x : List Int × Unit => (_ : Option (LRes (List Int × Unit) α))) = f
  have key : ∀ l : List Int, l.length ≤ maxLen → ∀ N, l.length < N → iterL N f (l, ()) = some (.brk 0 (trimL l, ())) := by
    refine snoc_ind (fun _ N hN => ?_) (fun l y ih hlen N hN => ?_)
    · obtain ⟨M, rfl⟩ : ∃ M, N = M + 1 := ⟨N - 1, by simp at hN; omega⟩
      have : f ([], ()) = some (.brk 0 ([], ())) := by rw [← hf]; rfl
      simp only [iterL, this]
      rfl
    · obtain ⟨M, rfl⟩ : ∃ M, N = M + 1 := ⟨N - 1, by omega⟩
      rw [List.length_append, List.length_singleton] at hlen hN
      rw [mlx] at hlen ih
      have hfl : f (l ++ [y], ()) = bif y == 0 then some (.cont (l, ())) else some (.brk 0 (l ++ [y], ())) := by
        rw [← hf]
        have e1 : (((l ++ [y]).length : Nat) : Int) - 1 = (l.length : Int) := by simp
        simp only [e1]
        have hL : (((l ++ [y]).length : Nat) : Int) = (l.length : Int) + 1 := by simp
        rw [w64 (l.length : Int) (by omega), decide_eq_true (show (((l ++ [y]).length : Nat) : Int) > 0 by rw [hL]; omega), cond_true, if_pos ⟨by omega, by rw [hL]; omega⟩, if_pos ⟨by omega, by rw [hL]; omega⟩]
        have e2 : (l ++ [y]).getD ((l.length : Int)).toNat (Int.ofNat 0) = y := by simp [List.getD_eq_getElem?_getD]
        have e3 : List.take ((l.length : Int)).toNat (l ++ [y]) = l := by simp
        rw [e2, e3]
      simp only [iterL, hfl]
      by_cases hy : y = 0
      · subst hy
        rw [beq_self_eq_true, cond_true, trimL_app0]
        exact ih (by omega) M (by omega)
      · rw [beq_eq_false_iff_ne.2 hy, cond_false, trimL_last _ _ hy]
  rw [key a hl _ (by omega)]
  rfl
theorem trimS_ok : FspOk Tryz.prog 178 trimS := tower_S fs_nil sp_nil ⟨Tryz.func178, fun _ _ => by kernel_rfl⟩ (by intro α args k; unfold trimS; split <;> rfl) fun args out hs h => by
  unfold trimS at h
  split at h
  · rename_i l
    exact ⟨_, 0, (trim_plain l (hs _ (by simp)).len some).trans h⟩
  · cases h
theorem isD_small {l : List Int} (h : isD l = true) : (l.length ≤ 4 ↔ vl l < 1152921504606846976) := by
  have h4 : (32768 : Int) ^ 4 = 1152921504606846976 := by decide
  have hlow := isD_low h
  constructor
  · intro hl
    have := vl_lt hlow
    have := pow_mono hl
    omega
  · intro hv
    rcases Nat.lt_or_ge l.length 5 with h5 | h5
    · omega
    · rw [isD_iff] at h
      have hz : vl l ≠ 0 := fun e => by have := h.1; rw [e, dg_zero] at this; rw [this] at h5; simp at h5
      have h2 := dg_ge (vl l) h.2.1 hz
      rw [← h.1] at h2
      have := pow_mono (show 4 ≤ l.length - 1 by omega)
      omega
def smB (n : Int) : Bool := decide (n < 1152921504606846976)
def numberS : Fsp := fun _ args k => match args with
  | [.ro (.int .i64) l] => bif isD l then k (.ret (.tup [iN (bif smB (vl l) then vl l else 0), bN (smB (vl l))])) else none
  | _ => none
theorem number_text (N n0 : Nat) (α : Type) (a : List Int) (k : AOut → Option α) : evFn real tab ((twT (fun _ => none) (fun _ => none)).env real tab N n0) N Tryz.f180 α [lN a] k =
 bif decide ((a.length : Int) > 4) then k (.ret (.tup [iN 0, bN false])) else afterL (iterL N (fun (x : Int × Int × Unit) => bif decide (x.2.1 ≥ 0) then if 0 ≤ x.2.1 ∧ x.2.1 <
 (a.length : Int) then some (LRes.cont (IntKind.i64.wrap (IntKind.i64.wrap (32768 * x.1) + a.getD x.2.1.toNat (Int.ofNat 0)), IntKind.i64.wrap (x.2.1 - 1), ())) else none else some
 (LRes.brk 0 (x.1, x.2.1, ()))) (0, IntKind.i64.wrap ((a.length : Int) - 1), ())) fun id y => if id = 0 then k (.ret (.tup [iN y.1, bN true])) else none := by kernel_rfl
theorem number_plain {α : Type} (a : List Int) (h : isD a = true) (k : AOut → Option α) : evFn real tab ((twT (fun _ => none) (fun _ => none)).env real tab 20 0) 20 Tryz.f180 α [lN a] k = k (.ret (.tup [iN (bif smB (vl a) then vl a else 0), bN (smB (vl a))])) := by
  rw [number_text]
  have hs := isD_small h
  have hlow := isD_low h
  by_cases hl : a.length ≤ 4
  · have hv := hs.1 hl
    have e0 : smB (vl a) = true := decide_eq_true hv
    rw [decide_eq_false (show ¬ (a.length : Int) > 4 by omega), cond_false, e0, cond_true]
    generalize hf : (fun x : Int × Int × Unit => (_ : Option (LRes (Int × Int × Unit) α))) = f
    have e : iterL 20 f (0, IntKind.i64.wrap ((a.length : Int) - 1), ()) = some (.brk 0 (vl a, -1, ())) := by
      refine (congrArg (iterL 20 f) ?_).trans (iterL_count (f := f) (fun j : Nat => (vl (a.drop (a.length - j)), (a.length : Int) - 1 - j, ())) (fun y e => by cases e) a.length (fun j hj => ?_) ?_ 0 (Nat.zero_le _) 20 (by omega))
      · rw [w64 _ (by omega)]; simp [vl]
      · rw [← hf]
        have hi : ((a.length : Int) - 1 - j).toNat = a.length - 1 - j := by omega
        have hlt : a.length - 1 - j < a.length := by omega
        have hd : a.drop (a.length - (j + 1)) = a.getD (a.length - 1 - j) 0 :: a.drop (a.length - j) := by
          rw [show a.length - (j + 1) = a.length - 1 - j by omega, List.drop_eq_getElem_cons hlt, List.getD_eq_getElem?_getD, List.getElem?_eq_getElem hlt, show a.length - 1 - j + 1 = a.length - j by omega]
          rfl
        have hb := low_get hlow (a.length - 1 - j)
        have h0 := vl_nn (low_drop hlow (a.length - j))
        have h1 := vl_lt (low_drop hlow (a.length - j))
        have h2 := pow_mono (show (a.drop (a.length - j)).length ≤ 3 by simp; omega)
        have h3 : (32768 : Int) ^ 3 = 35184372088832 := by decide
        simp only [decide_eq_true (show (a.length : Int) - 1 - j ≥ 0 by omega), cond_true, hi, hd, vl, show Int.ofNat 0 = 0 from rfl]
        rw [if_pos ⟨by omega, by omega⟩, w64 (32768 * _) (by omega), w64 _ (by omega), w64 _ (by omega)]
        congr 3
        · omega
        · congr 1; omega
      · rw [← hf]
        simp only [decide_eq_false (show ¬ (a.length : Int) - 1 - a.length ≥ 0 by omega), cond_false, Nat.sub_self, List.drop_zero]
        rw [show (a.length : Int) - 1 - a.length = -1 by omega]
    rw [e]
    rfl
  · have hv : ¬ vl a < 1152921504606846976 := fun c => hl (hs.2 c)
    have e0 : smB (vl a) = false := decide_eq_false hv
    rw [decide_eq_true (show (a.length : Int) > 4 by omega), cond_true, e0]
    rfl
theorem numberS_ok : FspOk Tryz.prog 180 numberS := tower_S fs_nil sp_nil ⟨Tryz.func180, fun _ _ => by kernel_rfl⟩ (by intro α args k; unfold numberS; split <;> simp only [cond_bind, Option.bind_some, Option.bind_none]) fun args out hs h => by
  unfold numberS at h
  split at h
  · rename_i l
    cases hb : isD l
    · rw [hb] at h; cases h
    · rw [hb] at h
      exact ⟨20, 0, (number_plain l hb some).trans h⟩
  · cases h
end Go.Proofs.YtgpljldfbhkdlaaGreat

namespace Go.Proofs.YtgpljldfbhkdlaaGreat
open Go.RowKit
def orderS : Fsp := fun _ args k => match args with
  | [.ro (.int .i64) a, .ro (.int .i64) b] => bif isD a && isD b then k (i1 (cmp3 (vl a) (vl b))) else none
  | _ => none
theorem order_text (N n0 : Nat) (α : Type) (a b : List Int) (k : AOut → Option α) : evFn real tab ((twT (fun _ => none) (fun _ => none)).env real tab N n0) N Tryz.f181 α [lN a, lN b] k =
 bif decide ((a.length : Int) < (b.length : Int)) then k (i1 (-1)) else bif decide ((a.length : Int) > (b.length : Int)) then k (i1 1) else afterL (iterL N (fun (x : Int × Unit) =>
 bif decide (x.1 ≥ 0) then if 0 ≤ x.1 ∧ x.1 < (a.length : Int) then if 0 ≤ x.1 ∧ x.1 < (b.length : Int) then bif decide (a.getD x.1.toNat (Int.ofNat 0) < b.getD x.1.toNat (Int.ofNat
 0)) then finL (k (i1 (-1))) else if 0 ≤ x.1 ∧ x.1 < (a.length : Int) then if 0 ≤ x.1 ∧ x.1 < (b.length : Int) then bif decide (a.getD x.1.toNat (Int.ofNat 0) > b.getD x.1.toNat
 (Int.ofNat 0)) then finL (k (i1 1)) else some (LRes.cont (IntKind.i64.wrap (x.1 - 1), ())) else none else none else none else none else some (LRes.brk 0 (x.1, ())))
 (IntKind.i64.wrap ((a.length : Int) - 1), ())) fun id _ => if id = 0 then k (i1 0) else none := by kernel_rfl
theorem drop_eq {l m : List Int} (hl : m.length = l.length) {i : Nat} (h : ∀ j, i ≤ j → j < l.length → l.getD j 0 = m.getD j 0) : l.drop i = m.drop i := by
  apply List.ext_getElem
  · simp [hl]
  · intro j h1 h2
    simp only [List.length_drop] at h1 h2
    have := h (i + j) (by omega) (by omega)
    rw [List.getD_eq_getElem?_getD, List.getD_eq_getElem?_getD, List.getElem?_eq_getElem (by omega), List.getElem?_eq_getElem (by omega)] at this
    simpa using this
theorem order_plain {α : Type} (a b : List Int) (ha : isD a = true) (hb : isD b = true) (k : AOut → Option α) : evFn real tab ((twT (fun _ => none) (fun _ => none)).env real tab (a.length + 1) 0) (a.length + 1) Tryz.f181 α [lN a, lN b] k = k (i1 (cmp3 (vl a) (vl b))) := by
  rw [order_text]
  have la := isD_len ha
  have lb := isD_len hb
  rw [isD_iff] at ha hb
  obtain ⟨ea, a0, a1⟩ := ha
  obtain ⟨eb, b0, b1⟩ := hb
  generalize vl a = A at *
  generalize vl b = B at *
  subst ea; subst eb
  unfold cmp3
  by_cases h1 : (dg A).length < (dg B).length
  · rw [decide_eq_true (by omega), cond_true, if_pos (dg_len_lt a0 b0 h1)]
  · rw [decide_eq_false (by omega), cond_false]
    by_cases h2 : (dg B).length < (dg A).length
    · have := dg_len_lt b0 a0 h2
      rw [decide_eq_true (by omega), cond_true, if_neg (by omega), if_pos this]
    · have hl : (dg B).length = (dg A).length := by omega
      rw [decide_eq_false (by omega), cond_false]
      generalize hf : (fun x : Int × Unit => (_ : Option (LRes (Int × Unit) α))) = f
      have e := iterL_find (f := f) (fun j : Nat => (((dg A).length : Int) - 1 - j, ())) (fun j => (dg A).getD ((dg A).length - 1 - j) 0 != (dg B).getD ((dg A).length - 1 - j) 0)
        (R := fun j => if (dg A).getD ((dg A).length - 1 - j) 0 < (dg B).getD ((dg A).length - 1 - j) 0 then finL (k (i1 (-1))) else finL (k (i1 1))) (E := some (.brk 0 (-1, ())))
        (fun i y => by split <;> exact fin_not _ y) (brk_not _ _) (dg A).length (fun j hj => ?_) ?_
      · have e0 : (((dg A).length : Int) - 1 - ((0 : Nat) : Int), ()) = (IntKind.i64.wrap (((dg A).length : Int) - 1), ()) := by rw [w64 _ (by omega)]; simp
        rw [e0] at e
        rw [e]
        cases hq : (List.range (dg A).length).find? fun j => (dg A).getD ((dg A).length - 1 - j) 0 != (dg B).getD ((dg A).length - 1 - j) 0 with
        | none =>
          rw [List.find?_eq_none] at hq
          have heq : (dg A).drop 0 = (dg B).drop 0 := drop_eq hl fun j _ hj => by
            have := hq ((dg A).length - 1 - j) (List.mem_range.2 (by omega))
            rw [show (dg A).length - 1 - ((dg A).length - 1 - j) = j by omega] at this
            simpa using this
          have : A = B := dg_eq a0 b0 heq
          rw [if_neg (by omega), if_neg (by omega)]
          rfl
        | some j =>
          have hj := List.mem_range.1 (List.mem_of_find?_eq_some hq)
          have hne := List.find?_some hq
          simp only [bne_iff_ne, ne_eq] at hne
          have hdrop : (dg A).drop ((dg A).length - 1 - j + 1) = (dg B).drop ((dg A).length - 1 - j + 1) := drop_eq hl fun i hi hi2 => by
            have hb := (List.find?_range_eq_some.1 hq).2.2 ((dg A).length - 1 - i) (by omega)
            rw [show (dg A).length - 1 - ((dg A).length - 1 - i) = i by omega] at hb
            simpa using hb
          dsimp only
          by_cases hlt : (dg A).getD ((dg A).length - 1 - j) 0 < (dg B).getD ((dg A).length - 1 - j) 0
          · rw [if_pos hlt, if_pos (dg_top a0 b0 (by omega) (by omega) hdrop hlt)]
            cases k (i1 (-1)) <;> rfl
          · have := dg_top b0 a0 (i := (dg A).length - 1 - j) (by omega) (by omega) hdrop.symm (by omega)
            rw [if_neg hlt, if_neg (by omega), if_pos this]
            cases k (i1 1) <;> rfl
      · rw [← hf]
        have hi : (((dg A).length : Int) - 1 - j).toNat = (dg A).length - 1 - j := by omega
        simp only [decide_eq_true (show ((dg A).length : Int) - 1 - j ≥ 0 by omega), cond_true, hi, show Int.ofNat 0 = 0 from rfl]
        rw [if_pos ⟨by omega, by omega⟩, if_pos ⟨by omega, by omega⟩, if_pos ⟨by omega, by omega⟩, if_pos ⟨by omega, by omega⟩, w64 _ (by omega)]
        generalize (dg A).getD ((dg A).length - 1 - j) 0 = u
        generalize (dg B).getD ((dg A).length - 1 - j) 0 = v
        by_cases c1 : u < v
        · rw [decide_eq_true c1, if_pos c1, show (u != v) = true by simp; omega]; rfl
        · rw [decide_eq_false c1, if_neg c1]
          by_cases c2 : u > v
          · rw [decide_eq_true c2, show (u != v) = true by simp; omega]; rfl
          · rw [decide_eq_false c2, show (u != v) = false by simp; omega, cond_false, cond_false, cond_false, show ((dg A).length : Int) - 1 - j - 1 = ((dg A).length : Int) - 1 - ((j + 1 : Nat) : Int) by omega]
      · rw [← hf]
        simp only [decide_eq_false (show ¬ ((dg A).length : Int) - 1 - (dg A).length ≥ 0 by omega), cond_false]
        rw [show ((dg A).length : Int) - 1 - (dg A).length = -1 by omega]
theorem orderS_ok : FspOk Tryz.prog 181 orderS := tower_S fs_nil sp_nil ⟨Tryz.func181, fun _ _ => by kernel_rfl⟩ (by intro α args k; unfold orderS; split <;> simp only [cond_bind, Option.bind_some, Option.bind_none]) fun args out hs h => by
  unfold orderS at h
  split at h
  · rename_i a b
    cases hb : isD a && isD b
    · rw [hb] at h; cases h
    · rw [hb] at h
      rw [Bool.and_eq_true] at hb
      exact ⟨_, 0, (order_plain a b hb.1 hb.2 some).trans h⟩
  · cases h
/-! Sums. -/
def plusDS : Fsp := fun _ args k => match args with
  | [.ro (.int .i64) a, .ro (.int .i64) b] => bif isD a && isD b then k (l1 (dg (vl a + vl b))) else none
  | _ => none
section
variable {σ α : Type}
def plDE (out : List Int) (c i : Int) : Option (LRes (List Int × Int × Int × Unit) α) :=
  if (out.length + [c.tmod 32768].length) * 8 ≤ room then some (LRes.cont (out ++ [c.tmod 32768], IntKind.i64.wrap (c.tdiv 32768), IntKind.i64.wrap (i + 1), ())) else none
def plB2 (b : List Int) (out : List Int) (c i : Int) : Option (LRes (List Int × Int × Int × Unit) α) :=
  bif decide (i < (b.length : Int)) then
    if 0 ≤ i ∧ i < (b.length : Int) then plDE out (IntKind.i64.wrap (c + b.getD i.toNat (Int.ofNat 0))) i else none
  else plDE out c i
def plB1 (a b : List Int) (out : List Int) (c i : Int) : Option (LRes (List Int × Int × Int × Unit) α) :=
  bif decide (i < (a.length : Int)) then
    if 0 ≤ i ∧ i < (a.length : Int) then plB2 b out (IntKind.i64.wrap (c + a.getD i.toNat (Int.ofNat 0))) i else none
  else plB2 b out c i
end
theorem plusD_text (N n0 : Nat) (α : Type) (a b : List Int) (k : AOut → Option α) : evFn real tab ((twT (fun _ => none) (fun _ => none)).env real tab N n0) N Tryz.f182 α [lN a, lN b] k =
 afterL (iterL N (fun (x : List Int × Int × Int × Unit) => bif decide (x.2.2.1 < (a.length : Int)) then plB1 a b x.1 x.2.1 x.2.2.1 else bif decide (x.2.2.1 < (b.length : Int)) then
 plB1 a b x.1 x.2.1 x.2.2.1 else bif decide (x.2.1 > 0) then plB1 a b x.1 x.2.1 x.2.2.1 else some (LRes.brk 0 (x.1, x.2.1, x.2.2.1, ()))) ([], 0, 0, ())) fun id y => if id = 0 then k
 (l1 y.1) else none := by kernel_rfl
theorem plB_step {α : Type} {a b : List Int} (ha : low15 a) (hb : low15 b) {i : Nat} (hi : i ≤ 20) : plB1 (α := α) a b (plSt a b i).2 (plSt a b i).1 i = some (.cont ((plSt a b (i + 1)).2, (plSt a b (i + 1)).1, ((i + 1 : Nat) : Int), ())) := by
  have h := pl_is ha hb i
  have hl := h.len
  have hc := h.c
  have h2 := low_get ha i
  have h3 := low_get hb i
  have fin : ∀ c : Int, c = plC a b (plSt a b i) i → plDE (α := α) (plSt a b i).2 c i = some (.cont ((plSt a b (i + 1)).2, (plSt a b (i + 1)).1, ((i + 1 : Nat) : Int), ())) := fun c e => by
    have hcc : 0 ≤ c ∧ c < 65536 := by rw [e]; unfold plC; omega
    unfold plDE
    rw [Int.tmod_eq_emod_of_nonneg hcc.1, Int.tdiv_eq_ediv_of_nonneg hcc.1, w64 (c / 32768) (by omega), w64 ((i : Int) + 1) (by omega), if_pos (by rw [roomx, hl]; simp; omega), e]
    rfl
  have second : ∀ c : Int, c = (plSt a b i).1 + a.getD i 0 → plB2 (α := α) b (plSt a b i).2 c i = some (.cont ((plSt a b (i + 1)).2, (plSt a b (i + 1)).1, ((i + 1 : Nat) : Int), ())) := fun c e => by
    unfold plB2
    by_cases hlt : i < b.length
    · rw [decide_eq_true (by omega), cond_true, if_pos ⟨by omega, by omega⟩]
      refine fin _ ?_
      show IntKind.i64.wrap (c + b.getD i 0) = _
      rw [w64 _ (by omega), e]; rfl
    · rw [decide_eq_false (by omega), cond_false]
      refine fin _ ?_
      have : b.getD i 0 = 0 := by rw [List.getD_eq_getElem?_getD, List.getElem?_eq_none (by omega)]; rfl
      rw [e]; unfold plC; omega
  unfold plB1
  by_cases hlt : i < a.length
  · rw [decide_eq_true (by omega), cond_true, if_pos ⟨by omega, by omega⟩]
    refine second _ ?_
    show IntKind.i64.wrap ((plSt a b i).1 + a.getD i 0) = _
    rw [w64 _ (by omega)]
  · rw [decide_eq_false (by omega), cond_false]
    refine second _ ?_
    have : a.getD i 0 = 0 := by rw [List.getD_eq_getElem?_getD, List.getElem?_eq_none (by omega)]; rfl
    omega
theorem dg_last {n : Int} (h : 0 ≤ n) {i : Nat} (hi : i + 1 = (dg n).length) : 0 < (dg n).getD i 0 := by
  have hz : n ≠ 0 := fun e => by subst e; simp [dg_zero] at hi
  have h1 := dg_ge n h hz
  have h2 := vl_split (dg n) i (by omega)
  have h3 := vl_lt (low_take (low_dg n h) i)
  rw [vl_dg n h] at h2
  have h4 : (dg n).drop i = [(dg n).getD i 0] := by
    rw [List.drop_eq_getElem_cons (by omega), List.getD_eq_getElem?_getD, List.getElem?_eq_getElem (by omega), List.drop_of_length_le (by omega)]
    rfl
  rw [h4] at h2
  simp only [vl] at h2
  have h5 := (low_get (low_dg n h) i).1
  rcases Int.lt_or_le 0 ((dg n).getD i 0) with q | q
  · exact q
  · have : (dg n).getD i 0 = 0 := by omega
    rw [this] at h2
    rw [← hi, Nat.add_sub_cancel] at h1
    rw [List.length_take, Nat.min_eq_left (by omega)] at h3
    omega
theorem plusD_plain {α : Type} (a b : List Int) (ha : isD a = true) (hb : isD b = true) (k : AOut → Option α) : evFn real tab ((twT (fun _ => none) (fun _ => none)).env real tab 30 0) 30 Tryz.f182 α [lN a, lN b] k = k (l1 (dg (vl a + vl b))) := by
  rw [plusD_text]
  have la := isD_len ha
  have lb := isD_len hb
  have wa := isD_low ha
  have wb := isD_low hb
  rw [isD_iff] at ha hb
  generalize hf : (fun x : List Int × Int × Int × Unit => (_ : Option (LRes (List Int × Int × Int × Unit) α))) = f
  -- how many parts there are
  let n0 := max a.length b.length
  have hn0 : a.length ≤ n0 ∧ b.length ≤ n0 ∧ n0 ≤ 12 := ⟨Nat.le_max_left .., Nat.le_max_right .., by simp only [n0]; omega⟩
  have P := pl_is wa wb n0
  have hv := P.vl
  rw [List.take_of_length_le hn0.1, List.take_of_length_le hn0.2.1] at hv
  have hgo : ∀ i, i < n0 → f ((plSt a b i).2, (plSt a b i).1, (i : Int), ()) = some (.cont ((plSt a b (i + 1)).2, (plSt a b (i + 1)).1, ((i + 1 : Nat) : Int), ())) := fun i hi => by
    rw [← hf]
    dsimp only
    rw [plB_step wa wb (by omega)]
    have : i < a.length ∨ i < b.length := by simp only [n0] at hi; omega
    rcases this with h | h
    · rw [decide_eq_true (by omega), cond_true]
    · rw [decide_eq_true (show (i : Int) < (b.length : Int) by omega), cond_true]
      cases decide ((i : Int) < (a.length : Int)) <;> rfl
  have hend : ∀ n : Nat, n0 ≤ n → n ≤ 14 → (plSt a b n).1 = 0 → f ((plSt a b n).2, (plSt a b n).1, (n : Int), ()) = some (.brk 0 ((plSt a b n).2, (plSt a b n).1, (n : Int), ())) := fun n h1 h2 h3 => by
    rw [← hf]
    dsimp only
    rw [decide_eq_false (by omega), decide_eq_false (show ¬ (n : Int) < (b.length : Int) by omega), h3]
    rfl
  have hc := P.c
  by_cases hz : (plSt a b n0).1 = 0
  · have e : iterL 30 f ([], 0, 0, ()) = some (.brk 0 ((plSt a b n0).2, (plSt a b n0).1, (n0 : Int), ())) :=
      iterL_count (f := f) (fun i : Nat => ((plSt a b i).2, (plSt a b i).1, (i : Int), ())) (fun y e => by cases e) n0 hgo (hend n0 (Nat.le_refl _) (by omega) hz) 0 (Nat.zero_le _) 30 (by omega)
    have hres : (plSt a b n0).2 = dg (vl a + vl b) := by
      rw [hz, Int.zero_mul, Int.add_zero] at hv
      rw [← hv]
      rcases Nat.eq_zero_or_pos n0 with h0 | h0
      · have := P.len
        rw [h0] at this ⊢
        have hnil := List.eq_nil_of_length_eq_zero this
        rw [hnil]; rfl
      · obtain ⟨m, hm⟩ : ∃ m, n0 = m + 1 := ⟨n0 - 1, by omega⟩
        have Q := pl_is wa wb m
        rw [hm] at hz ⊢
        have hl := Q.len
        have hcc := Q.c
        have ga := low_get wa m
        have gb := low_get wb m
        have htop : 0 < a.getD m 0 ∨ 0 < b.getD m 0 := by
          have : m + 1 = a.length ∨ m + 1 = b.length := by simp only [n0] at hm; omega
          rcases this with h | h
          · left; have := dg_last ha.2.1 (i := m) (by rw [← ha.1]; exact h); rw [← ha.1] at this; exact this
          · right; have := dg_last hb.2.1 (i := m) (by rw [← hb.1]; exact h); rw [← hb.1] at this; exact this
        have hq : plC a b (plSt a b m) m / 32768 = 0 := hz
        have hpc : plC a b (plSt a b m) m = (plSt a b m).1 + a.getD m 0 + b.getD m 0 := rfl
        have hs : (plSt a b (m + 1)).2 = (plSt a b m).2 ++ [plC a b (plSt a b m) m % 32768] := rfl
        rw [hs, vl_append]
        exact (dg_snoc Q.low (by omega)).symm
    rw [e, hres]
    rfl
  · have h1 : (plSt a b n0).1 = 1 := by omega
    have ga : a.getD n0 0 = 0 := by rw [List.getD_eq_getElem?_getD, List.getElem?_eq_none (by omega)]; rfl
    have gb : b.getD n0 0 = 0 := by rw [List.getD_eq_getElem?_getD, List.getElem?_eq_none (by omega)]; rfl
    have hpc : plC a b (plSt a b n0) n0 = 1 := by unfold plC; omega
    have hs : plSt a b (n0 + 1) = (0, (plSt a b n0).2 ++ [1]) := by
      show (plC a b (plSt a b n0) n0 / 32768, (plSt a b n0).2 ++ [plC a b (plSt a b n0) n0 % 32768]) = _
      rw [hpc]; rfl
    have e : iterL 30 f ([], 0, 0, ()) = some (.brk 0 ((plSt a b (n0 + 1)).2, (plSt a b (n0 + 1)).1, ((n0 + 1 : Nat) : Int), ())) :=
      iterL_count (f := f) (fun i : Nat => ((plSt a b i).2, (plSt a b i).1, (i : Int), ())) (fun y e => by cases e) (n0 + 1) (fun i hi => by
        rcases Nat.lt_or_ge i n0 with h | h
        · exact hgo i h
        · have : i = n0 := by omega
          subst this
          rw [← hf]
          dsimp only
          rw [plB_step wa wb (by omega), decide_eq_false (by omega), decide_eq_false (show ¬ (n0 : Int) < (b.length : Int) by omega), h1]
          rfl) (hend (n0 + 1) (by omega) (by omega) (by rw [hs])) 0 (Nat.zero_le _) 30 (by omega)
    have hres : (plSt a b (n0 + 1)).2 = dg (vl a + vl b) := by
      rw [hs, ← hv, h1]
      have hl := P.len
      have := dg_snoc P.low (x := 1) (by omega)
      rw [hl] at this
      exact this.symm
    rw [e, hres]
    rfl
theorem plusDS_ok : FspOk Tryz.prog 182 plusDS := tower_S fs_nil sp_nil ⟨Tryz.func182, fun _ _ => by kernel_rfl⟩ (by intro α args k; unfold plusDS; split <;> simp only [cond_bind, Option.bind_some, Option.bind_none]) fun args out hs h => by
  unfold plusDS at h
  split at h
  · rename_i a b
    cases hb : isD a && isD b
    · rw [hb] at h; cases h
    · rw [hb] at h
      rw [Bool.and_eq_true] at hb
      exact ⟨30, 0, (plusD_plain a b hb.1 hb.2 some).trans h⟩
  · cases h
end Go.Proofs.YtgpljldfbhkdlaaGreat

namespace Go.Proofs.YtgpljldfbhkdlaaGreat
open Go.RowKit
def fnA : FuncId → Option Fsp := fun g =>
  if g = 139 then some ofS else
  if g = 178 then some trimS else
  if g = 180 then some numberS else
  if g = 181 then some orderS else
  if g = 182 then some plusDS else
  none
theorem fnA_ok : FsOk fnA :=
  fs_cons ofS_ok <|
  fs_cons trimS_ok <|
  fs_cons numberS_ok <|
  fs_cons orderS_ok <|
  fs_cons plusDS_ok <|
  fs_nil
def minusDS : Fsp := fun _ args k => match args with
  | [.ro (.int .i64) a, .ro (.int .i64) b] => bif isD a && isD b && decide (vl b ≤ vl a) then k (l1 (dg (vl a - vl b))) else none
  | _ => none
section
variable {α : Type}
def mnE (out : List Int) (d i : Int) : Option (LRes (Int × List Int × Int × Unit) α) :=
  bif decide (d < 0) then
    if (out.length + [IntKind.i64.wrap (d + 32768)].length) * 8 ≤ room then some (LRes.cont (1, out ++ [IntKind.i64.wrap (d + 32768)], IntKind.i64.wrap (i + 1), ())) else none
  else
    if (out.length + [d].length) * 8 ≤ room then some (LRes.cont (0, out ++ [d], IntKind.i64.wrap (i + 1), ())) else none
end
theorem minusD_text (N n0 : Nat) (α : Type) (a b : List Int) (k : AOut → Option α) : evFn real tab ((twT fnA (fun _ => none)).env real tab N n0) N Tryz.f199 α [lN a, lN b] k =
 afterL (iterL N (fun (x : Int × List Int × Int × Unit) => bif decide (x.2.2.1 < (a.length : Int)) then if 0 ≤ x.2.2.1 ∧ x.2.2.1 < (a.length : Int) then bif decide (x.2.2.1 <
 (b.length : Int)) then if 0 ≤ x.2.2.1 ∧ x.2.2.1 < (b.length : Int) then mnE x.2.1 (IntKind.i64.wrap (IntKind.i64.wrap (a.getD x.2.2.1.toNat (Int.ofNat 0) - x.1) - b.getD
 x.2.2.1.toNat (Int.ofNat 0))) x.2.2.1 else none else mnE x.2.1 (IntKind.i64.wrap (a.getD x.2.2.1.toNat (Int.ofNat 0) - x.1)) x.2.2.1 else none else some (LRes.brk 0 (x.1, x.2.1,
 x.2.2.1, ()))) (0, [], 0, ())) fun id y => if id = 0 then k (l1 (trimL y.2.1)) else none := by kernel_rfl
theorem minusD_plain {α : Type} (a b : List Int) (ha : isD a = true) (hb : isD b = true) (hab : vl b ≤ vl a) (k : AOut → Option α) : evFn real tab ((twT fnA (fun _ => none)).env real tab 30 0) 30 Tryz.f199 α [lN a, lN b] k = k (l1 (dg (vl a - vl b))) := by
  rw [minusD_text]
  have la := isD_len ha
  have lb := isD_len hb
  have wa := isD_low ha
  have wb := isD_low hb
  rw [isD_iff] at ha hb
  generalize hf : (fun x : Int × List Int × Int × Unit => (_ : Option (LRes (Int × List Int × Int × Unit) α))) = f
  have e : iterL 30 f (0, [], 0, ()) = some (.brk 0 ((mnSt a b a.length).1, (mnSt a b a.length).2, (a.length : Int), ())) := by
    refine iterL_count (f := f) (fun i : Nat => ((mnSt a b i).1, (mnSt a b i).2, (i : Int), ())) (fun y e => by cases e) a.length (fun i hi => ?_) ?_ 0 (Nat.zero_le _) 30 (by omega)
    · rw [← hf]
      have h := mn_is wa wb i
      have hl := h.len
      have hc := h.c
      have h2 := low_get wa i
      have h3 := low_get wb i
      have fin : ∀ d : Int, d = mnD a b (mnSt a b i) i → mnE (α := α) (mnSt a b i).2 d i = some (.cont ((mnSt a b (i + 1)).1, (mnSt a b (i + 1)).2, ((i + 1 : Nat) : Int), ())) := fun d e => by
        have hd : -32768 ≤ d ∧ d < 32768 := by rw [e]; unfold mnD; omega
        unfold mnE
        simp only [mnSt, ← e]
        by_cases hn : d < 0
        · rw [decide_eq_true hn, cond_true, w64 (d + 32768) (by omega), w64 ((i : Int) + 1) (by omega), if_pos (by rw [roomx, hl]; simp; omega), if_pos hn, if_pos hn]
          rfl
        · rw [decide_eq_false hn, cond_false, w64 ((i : Int) + 1) (by omega), if_pos (by rw [roomx, hl]; simp; omega), if_neg hn, if_neg hn]
          rfl
      dsimp only
      rw [decide_eq_true (by omega), cond_true, if_pos ⟨by omega, by omega⟩]
      by_cases hlt : i < b.length
      · rw [decide_eq_true (by omega), cond_true, if_pos ⟨by omega, by omega⟩]
        refine fin _ ?_
        show IntKind.i64.wrap (IntKind.i64.wrap (a.getD i 0 - (mnSt a b i).1) - b.getD i 0) = _
        rw [w64 (a.getD i 0 - _) (by omega), w64 _ (by omega)]; rfl
      · rw [decide_eq_false (by omega), cond_false]
        refine fin _ ?_
        have : b.getD i 0 = 0 := by rw [List.getD_eq_getElem?_getD, List.getElem?_eq_none (by omega)]; rfl
        show IntKind.i64.wrap (a.getD i 0 - (mnSt a b i).1) = _
        rw [w64 _ (by omega)]; unfold mnD; omega
    · rw [← hf]
      have h1 : decide ((a.length : Int) < (a.length : Int)) = false := decide_eq_false (by omega)
      simp only [h1, cond_false]
  have hm := mn_dg hb.2.1 hab
  rw [← ha.1, ← hb.1] at hm
  rw [e]
  show k (l1 (trimL (mnSt a b a.length).2)) = _
  rw [hm]
theorem minusDS_ok : FspOk Tryz.prog 199 minusDS := tower_S fnA_ok sp_nil ⟨Tryz.func199, fun _ _ => by kernel_rfl⟩ (by intro α args k; unfold minusDS; split <;> simp only [cond_bind, Option.bind_some, Option.bind_none]) fun args out hs h => by
  unfold minusDS at h
  split at h
  · rename_i a b
    cases hb : isD a && isD b && decide (vl b ≤ vl a)
    · rw [hb] at h; cases h
    · rw [hb] at h
      simp only [Bool.and_eq_true, decide_eq_true_eq] at hb
      exact ⟨30, 0, (minusD_plain a b hb.1.1 hb.1.2 hb.2 some).trans h⟩
  · cases h
/-! Products. -/
def timesDS : Fsp := fun _ args k => match args with
  | [.ro (.int .i64) a, .ro (.int .i64) b] => bif isD a && isD b then k (l1 (dg (vl a * vl b))) else none
  | _ => none
theorem timesD_text (N n0 : Nat) (α : Type) (a b : List Int) (k : AOut → Option α) : evFn real tab ((twT fnA (fun _ => none)).env real tab N n0) N Tryz.f138 α [lN a, lN b] k =
 if 0 ≤ IntKind.i64.wrap ((a.length : Int) + (b.length : Int)) ∧ IntKind.i64.wrap ((a.length : Int) + (b.length : Int)) ≤ IntKind.i64.wrap ((a.length : Int) + (b.length : Int)) ∧
 IntKind.i64.wrap ((a.length : Int) + (b.length : Int)) * ((8 : Nat) : Int) ≤ (room : Int) then afterL (iterL N (fun (x : Int × List Int × Unit) => bif decide (x.1 < (a.length :
 Int)) then afterL (iterL N (fun (y : Int × Int × List Int × Unit) => bif decide (y.2.1 < (b.length : Int)) then if 0 ≤ IntKind.i64.wrap (x.1 + y.2.1) ∧ IntKind.i64.wrap (x.1 +
 y.2.1) < (y.2.2.1.length : Int) then if 0 ≤ x.1 ∧ x.1 < (a.length : Int) then if 0 ≤ y.2.1 ∧ y.2.1 < (b.length : Int) then if 0 ≤ IntKind.i64.wrap (x.1 + y.2.1) ∧ IntKind.i64.wrap
 (x.1 + y.2.1) < (y.2.2.1.length : Int) then some (LRes.cont (IntKind.i64.wrap ((IntKind.i64.wrap (IntKind.i64.wrap (y.1 + y.2.2.1.getD (IntKind.i64.wrap (x.1 + y.2.1)).toNat
 (Int.ofNat 0)) + IntKind.i64.wrap (a.getD x.1.toNat (Int.ofNat 0) * b.getD y.2.1.toNat (Int.ofNat 0)))).tdiv 32768), IntKind.i64.wrap (y.2.1 + 1), y.2.2.1.set (IntKind.i64.wrap (x.1
 + y.2.1)).toNat ((IntKind.i64.wrap (IntKind.i64.wrap (y.1 + y.2.2.1.getD (IntKind.i64.wrap (x.1 + y.2.1)).toNat (Int.ofNat 0)) + IntKind.i64.wrap (a.getD x.1.toNat (Int.ofNat 0) *
 b.getD y.2.1.toNat (Int.ofNat 0)))).tmod 32768), ())) else none else none else none else none else some (LRes.brk 2 (y.1, y.2.1, y.2.2.1, ()))) (0, 0, x.2.1, ())) fun id y => if id
 = 2 then if 0 ≤ IntKind.i64.wrap (x.1 + (b.length : Int)) ∧ IntKind.i64.wrap (x.1 + (b.length : Int)) < (y.2.2.1.length : Int) then some (LRes.cont (IntKind.i64.wrap (x.1 + 1),
 y.2.2.1.set (IntKind.i64.wrap (x.1 + (b.length : Int))).toNat y.1, ())) else none else none else some (LRes.brk 0 (x.1, x.2.1, ()))) (0, List.replicate (IntKind.i64.wrap ((a.length
 : Int) + (b.length : Int))).toNat (Int.ofNat 0), ())) fun id y => if id = 0 then k (l1 (trimL y.2.1)) else none else none := by kernel_rfl
theorem timesD_plain {α : Type} (a b : List Int) (ha : isD a = true) (hb : isD b = true) (k : AOut → Option α) : evFn real tab ((twT fnA (fun _ => none)).env real tab 30 0) 30 Tryz.f138 α [lN a, lN b] k = k (l1 (dg (vl a * vl b))) := by
  rw [timesD_text]
  have la := isD_len ha
  have lb := isD_len hb
  have wa := isD_low ha
  have wb := isD_low hb
  rw [w64 ((a.length : Int) + (b.length : Int)) (by omega), if_pos ⟨by omega, by omega, by rw [roomx]; omega⟩]
  generalize hf : (fun x : Int × List Int × Unit => (_ : Option (LRes (Int × List Int × Unit) α))) = f
  have hrep : List.replicate ((a.length : Int) + (b.length : Int)).toNat (Int.ofNat 0) = outSt a b 0 := by
    rw [show ((a.length : Int) + (b.length : Int)).toNat = a.length + b.length by omega]; rfl
  rw [hrep]
  have e : iterL 30 f (0, outSt a b 0, ()) = some (.brk 0 ((a.length : Int), outSt a b a.length, ())) := by
    refine iterL_count (f := f) (fun i : Nat => ((i : Int), outSt a b i, ())) (fun y e => by cases e) a.length (fun i hi => ?_) ?_ 0 (Nat.zero_le _) 30 (by omega)
    · rw [← hf]
      have O := out_is wa wb i (by omega)
      have Ol := O.len
      dsimp only
      rw [decide_eq_true (by omega), cond_true]
      generalize hg : (fun y : Int × Int × List Int × Unit => (_ : Option (LRes (Int × Int × List Int × Unit) (LRes (Int × List Int × Unit) α)))) = g
      have e2 : iterL 30 g (0, 0, outSt a b i, ()) = some (.brk 2 ((inSt (a.getD i 0) b i (outSt a b i) b.length).1, (b.length : Int), (inSt (a.getD i 0) b i (outSt a b i) b.length).2, ())) := by
        refine iterL_count (f := g) (fun q : Nat => ((inSt (a.getD i 0) b i (outSt a b i) q).1, (q : Int), (inSt (a.getD i 0) b i (outSt a b i) q).2, ())) (fun y e => by cases e) b.length (fun q hq => ?_) ?_ 0 (Nat.zero_le _) 30 (by omega)
        · rw [← hg]
          have I := in_is (low_get wa i) wb O.low (i := i) (by omega) q (by omega)
          have Il := I.len
          have hc := inC_in (low_get wa i) wb I
          have h1 := I.c
          have h2 := low_get I.low (i + q)
          have h3 := low_get wb q
          have h4 := low_get wa i
          have h5 : 0 ≤ a.getD i 0 * b.getD q 0 := Int.mul_nonneg h4.1 h3.1
          have h6 : a.getD i 0 * b.getD q 0 ≤ 32767 * 32767 := Int.mul_le_mul (by omega) (by omega) h3.1 (by omega)
          have hcc : inC (a.getD i 0) b i (inSt (a.getD i 0) b i (outSt a b i) q) q = (inSt (a.getD i 0) b i (outSt a b i) q).1 + (inSt (a.getD i 0) b i (outSt a b i) q).2.getD (i + q) 0 + a.getD i 0 * b.getD q 0 := rfl
          dsimp only
          have hz : ((i : Int) + (q : Int)).toNat = i + q := by omega
          rw [decide_eq_true (by omega), cond_true, w64 ((i : Int) + (q : Int)) (by omega), hz, if_pos ⟨by omega, by omega⟩, if_pos ⟨by omega, by omega⟩, if_pos ⟨by omega, by omega⟩, if_pos ⟨by omega, by omega⟩]
          rw [show ((i : Int)).toNat = i from rfl, show ((q : Int)).toNat = q from rfl, show Int.ofNat 0 = 0 from rfl]
          rw [w64 ((inSt (a.getD i 0) b i (outSt a b i) q).1 + _) (by omega), w64 (a.getD i 0 * b.getD q 0) (by omega), ← hcc, w64 (inC _ _ _ _ _) (by omega), Int.tmod_eq_emod_of_nonneg hc.1, Int.tdiv_eq_ediv_of_nonneg hc.1, w64 (inC _ _ _ _ _ / 32768) (by omega), w64 ((q : Int) + 1) (by omega)]
          rfl
        · rw [← hg]
          have h1 : decide ((b.length : Int) < (b.length : Int)) = false := decide_eq_false (by omega)
          simp only [h1, cond_false]
      have I := in_is (low_get wa i) wb O.low (i := i) (by omega) b.length (Nat.le_refl _)
      have Il := I.len
      rw [e2]
      have hz : ((i : Int) + (b.length : Int)).toNat = i + b.length := by omega
      simp only [afterL]
      rw [if_pos trivial, w64 ((i : Int) + (b.length : Int)) (by omega), hz, w64 ((i : Int) + 1) (by omega)]
      rw [if_pos ⟨by omega, by show _ < ((inSt (a.getD i 0) b i (outSt a b i) b.length).2.length : Int); omega⟩]
      rfl
    · rw [← hf]
      have h1 : decide ((a.length : Int) < (a.length : Int)) = false := decide_eq_false (by omega)
      simp only [h1, cond_false]
  rw [e]
  show k (l1 (trimL (outSt a b a.length))) = _
  rw [out_dg (isD_isDg ha) (isD_isDg hb)]
theorem timesDS_ok : FspOk Tryz.prog 138 timesDS := tower_S fnA_ok sp_nil ⟨Tryz.func138, fun _ _ => by kernel_rfl⟩ (by intro α args k; unfold timesDS; split <;> simp only [cond_bind, Option.bind_some, Option.bind_none]) fun args out hs h => by
  unfold timesDS at h
  split at h
  · rename_i a b
    cases hb : isD a && isD b
    · rw [hb] at h; cases h
    · rw [hb] at h
      rw [Bool.and_eq_true] at hb
      exact ⟨30, 0, (timesD_plain a b hb.1 hb.2 some).trans h⟩
  · cases h
end Go.Proofs.YtgpljldfbhkdlaaGreat
