/- Parts of the proof, in build order. -/
import Derived.Test.YtbcjhjidhhecaaaM8
/- IcePlaces: greatest common divisors, lists that are the same; the statement's text. -/
namespace Go.Proofs.Ytbcjhjidhhecaaa
open Go.RowKit

section
variable {α : Type}
def gcdF : Int × Int × Unit → Option (LRes (Int × Int × Unit) α) := fun x =>
  bif decide (x.2.1 > 0) then
    if x.2.1 = 0 then none else some (LRes.cont (x.2.1, x.1.tmod x.2.1, ()))
  else some (LRes.brk 0 (x.1, x.2.1, ()))
theorem gcd_loop : ∀ (m a b : Nat), b ≤ m → iterL (α := α) (m + 1) gcdF ((a : Int), (b : Int), ()) = some (.brk 0 ((Nat.gcd a b : Nat), 0, ()))
  | 0, a, b, hb => by
    have : b = 0 := by omega
    subst this
    simp [iterL, gcdF]
  | m + 1, a, b, hb => by
    rcases Nat.eq_zero_or_pos b with rfl | h0
    · simp [iterL, gcdF]
    · have e : gcdF (α := α) ((a : Int), (b : Int), ()) = some (LRes.cont ((b : Int), ((a % b : Nat) : Int), ())) := by
        unfold gcdF
        simp only
        rw [decide_eq_true (show (b : Int) > 0 by omega), cond_true, if_neg (by omega), Int.tmod_eq_emod_of_nonneg (by omega)]
        simp
      have ih := gcd_loop m b (a % b) (by have := Nat.mod_lt a h0; omega)
      conv => lhs; unfold iterL
      rw [e]
      simp only
      rw [ih, Nat.gcd_comm a b, Nat.gcd_rec b a, Nat.gcd_comm]
end
def smlB (a : Int) : Bool := decide (-70368744177664 ≤ a) && decide (a ≤ 70368744177664)
def gcdI (a b : Int) : Int := (Nat.gcd a.natAbs b.natAbs : Nat)
--AT fsIb spL twY
theorem igcd_text (N n0 : Nat) (α : Type) (a b : Int) (k : AOut → Option α) : evFn real tab ((twY fsIb spL).env real tab N (n0 + 8)) N Try.f12 α [.int .i64 a, .int .i64 b] k =
    afterL (iterL N gcdF (mx a (IntKind.i64.wrap (0 - a)), mx b (IntKind.i64.wrap (0 - b)), ())) fun id y => if id = 0 then k (i1 y.1) else none := by kernel_rfl
theorem mx_abs {a : Int} (h : smlB a = true) : mx a (IntKind.i64.wrap (0 - a)) = (a.natAbs : Int) := by
  simp only [smlB, Bool.and_eq_true, decide_eq_true_eq] at h
  rw [i64_in (0 - a) (by omega)]
  unfold mx
  split <;> omega
--FIN igcd | besom/besomlaw03.gcd | (a b : Int) | $I{a}, $I{b} | i1 (gcdI a b) | smlB a && smlB b
theorem igcd_fin (a b : Int) (hs : ∀ qSm ∈ ([.int .i64 a, .int .i64 b] : List AVal), Sm qSm) (hCo : (smlB a && smlB b) = true) : ∃ N n, ∀ α (k : AOut → Option α), evFn real tab ((twY fsIb spL).env real tab N n) N Try.f12 α [.int .i64 a, .int .i64 b] k = k (i1 (gcdI a b)) := by
  simp only [Bool.and_eq_true] at hCo
  refine ⟨b.natAbs + 1, 8, fun α k => (igcd_text (b.natAbs + 1) 0 α a b k).trans ?_⟩
  rw [mx_abs hCo.1, mx_abs hCo.2, gcd_loop b.natAbs _ _ (Nat.le_refl _)]
  rfl
--CON igcd
noncomputable def igcdS : Fsp := fun _ args k => match args with
  | [.int .i64 a, .int .i64 b] => bif smlB a && smlB b then k (i1 (gcdI a b)) else none
  | _ => none
theorem igcdS_ok : FspOk Try.prog 12 igcdS := tower_Y fsIb_ok spL_ok ⟨Try.func12, fun _ _ => by kernel_rfl⟩ (by intro α args k; unfold igcdS; split <;> simp only [cond_bind, Option.bind_some, Option.bind_none]) fun args out hSm hEq => by
  unfold igcdS at hEq
  split at hEq
  · rename_i a b
    cases hc : smlB a && smlB b
    · rw [hc] at hEq; cases hEq
    · rw [hc] at hEq
      obtain ⟨N, n, e⟩ := igcd_fin a b hSm hc
      exact ⟨N, n, (e AOut some).trans hEq⟩
  · cases hEq
--END
theorem iints_text (N n0 : Nat) (α : Type) (xs ys : List Int) (k : AOut → Option α) : evFn real tab ((twY fsIb spL).env real tab N (n0 + 8)) N Try.f14 α [.ro (.int .i64) xs, .ro (.int .i64) ys] k =
    bif (xs.length : Int) != (ys.length : Int) then k (b1 false)
    else
      afterL (iterL N (fun x : Int × Unit =>
        bif decide (x.1 < (xs.length : Int)) then
          if 0 ≤ x.1 ∧ x.1 < (xs.length : Int) then
            if 0 ≤ x.1 ∧ x.1 < (ys.length : Int) then
              bif xs.getD x.1.toNat 0 != ys.getD x.1.toNat 0 then finL (k (b1 false))
              else some (LRes.cont (IntKind.i64.wrap (x.1 + 1), ()))
            else none
          else none
        else some (LRes.brk 0 (x.1, ()))) (0, ())) fun id _ => if id = 0 then k (b1 true) else none := by kernel_rfl
theorem list_eq_getD {xs ys : List Int} (h : xs.length = ys.length) : (!(List.range xs.length).any fun i => xs.getD i 0 != ys.getD i 0) = (xs == ys) := by
  rw [Bool.eq_iff_iff, Bool.not_eq_true', beq_iff_eq]
  constructor
  · intro hn
    refine List.ext_getElem h fun i h1 h2 => ?_
    have : ¬ (xs.getD i 0 != ys.getD i 0) = true := fun hc => by
      have := (List.any_eq_true (p := fun i => xs.getD i 0 != ys.getD i 0)).2 ⟨i, List.mem_range.2 h1, hc⟩
      rw [hn] at this; cases this
    rw [List.getD_eq_getElem?_getD, List.getD_eq_getElem?_getD, List.getElem?_eq_getElem h1, List.getElem?_eq_getElem h2] at this
    simpa using this
  · rintro rfl
    simp
--FIN iints | besom/besomref03.Ints | (xs ys : List Int) | .ro (.int .i64) xs, .ro (.int .i64) ys | b1 (BEq.beq (α := List Int) xs ys)
theorem iints_fin (xs ys : List Int) (hs : ∀ qSm ∈ ([.ro (.int .i64) xs, .ro (.int .i64) ys] : List AVal), Sm qSm) : ∃ N n, ∀ α (k : AOut → Option α), evFn real tab ((twY fsIb spL).env real tab N n) N Try.f14 α [.ro (.int .i64) xs, .ro (.int .i64) ys] k = k (b1 (BEq.beq (α := List Int) xs ys)) := by
  have hl : xs.length ≤ maxLen := (hs _ (List.mem_cons_self ..)).len
  refine ⟨xs.length + 1, 8, fun α k => (iints_text (xs.length + 1) 0 α xs ys k).trans ?_⟩
  by_cases hn : xs.length = ys.length
  · rw [show ((xs.length : Int) != (ys.length : Int)) = false by simp [hn], cond_false]
    refine (any_loop (fun i : Nat => ((i : Int), ())) xs.length (fun i => xs.getD i 0 != ys.getD i 0) (b := 0) (y := ((xs.length : Int), ())) (k (b1 false)) (fun i hi => ?_) ?_).trans ?_
    · simp only [lt_len hi, cond_true]
      rw [if_pos (in_len hi), if_pos (in_len (by omega)), wrap_next hi hl]
      rfl
    · simp only [not_lt_len, cond_false]
    · have e := list_eq_getD hn
      rw [← e]
      cases (List.range xs.length).any fun i => xs.getD i 0 != ys.getD i 0 <;> rfl
  · rw [show ((xs.length : Int) != (ys.length : Int)) = true by simp; omega, cond_true]
    have : (xs == ys) = false := by
      rw [beq_eq_false_iff_ne]; rintro rfl; exact hn rfl
    rw [this]
--CON iints
noncomputable def iintsS : Fsp := fun _ args k => match args with
  | [.ro (.int .i64) xs, .ro (.int .i64) ys] => k (b1 (BEq.beq (α := List Int) xs ys))
  | _ => none
theorem iintsS_ok : FspOk Try.prog 14 iintsS := tower_Y fsIb_ok spL_ok ⟨Try.func14, fun _ _ => by kernel_rfl⟩ (by intro α args k; unfold iintsS; split <;> rfl) fun args out hSm hEq => by
  unfold iintsS at hEq
  split at hEq
  · rename_i xs ys
    obtain ⟨N, n, e⟩ := iints_fin xs ys hSm
    exact ⟨N, n, (e AOut some).trans hEq⟩
  · cases hEq
--END
--FS fsIc | fsIb | igcd;iints
noncomputable def fsIc : FuncId → Option Fsp := fun g =>
  if g = 12 then some igcdS else
  if g = 14 then some iintsS else
  fsIb g
theorem fsIc_ok : FsOk fsIc :=
  fs_cons igcdS_ok <|
  fs_cons iintsS_ok <|
  fsIb_ok
--END
end Go.Proofs.Ytbcjhjidhhecaaa

/- IceScraped: ices that are the same; its text. -/
namespace Go.Proofs.Ytbcjhjidhhecaaa
open Go.RowKit

--FS fsIs | fsI11 | ialive=besom/besomlaw03.alive;iints=besom/besomref03.Ints
noncomputable def fsIs : FuncId → Option Fsp := fun g =>
  if g = 9 then some ialiveS else
  if g = 14 then some iintsS else
  fsI11 g
theorem fsIs_ok : FsOk fsIs :=
  fs_cons ialiveS_ok <|
  fs_cons iintsS_ok <|
  fsI11_ok
--END
--AT fsIs spL twY
def sameB (cx cy sd w h : Int) (pb po : List Int) (cx' cy' sd' w' h' : Int) (pb' po' : List Int) : Bool :=
  ((cx == cx' && cy == cy') && (sd == sd' && (w == w' && h == h'))) && (BEq.beq (α := List Int) pb pb' && BEq.beq (α := List Int) po po')
section
variable {α : Type}
def cmpF (b : Nat) (xs ys : List Int) (kf : Option α) (x : Int × Unit) : Option (LRes (Int × Unit) α) :=
  bif decide (x.1 < (xs.length : Int)) then
    if 0 ≤ x.1 ∧ x.1 < (xs.length : Int) then
      if 0 ≤ x.1 ∧ x.1 < (ys.length : Int) then
        bif xs.getD x.1.toNat 0 != ys.getD x.1.toNat 0 then finL kf
        else some (LRes.cont (IntKind.i64.wrap (x.1 + 1), ()))
      else none
    else none
  else some (LRes.brk b (x.1, ()))
/-- As iterL_any, with more fuel than is needed. -/
theorem any_from {σ : Type} {f : σ → Option (LRes σ α)} (st : Nat → σ) (p : Nat → Bool) {R E : Option (LRes σ α)} (hR : ∀ y, R ≠ some (.cont y)) (hE : ∀ y, E ≠ some (.cont y)) (n : Nat) (h : ∀ i, i < n → f (st i) = bif p i then R else some (.cont (st (i + 1)))) (hend : f (st n) = E) :
    ∀ k m, m + k = n → ∀ N, k < N → iterL N f (st m) = bif (List.range' m k).any p then R else E
  | 0, m, hm, N, hN => by
    cases N with
    | zero => omega
    | succ N =>
      have : m = n := by omega
      subst this
      simp only [iterL, hend]
      simp only [List.range'_zero, List.any_nil, cond_false]
  | k + 1, m, hm, N, hN => by
    cases N with
    | zero => omega
    | succ N =>
      have hf := h m (by omega)
      have ih := any_from st p hR hE n h hend k (m + 1) (by omega) N (by omega)
      rw [List.range'_succ, List.any_cons]
      cases hp : p m
      · rw [hp] at hf
        rw [Bool.false_or, ← ih]
        conv => lhs; unfold iterL
        rw [hf]
        rfl
      · rw [hp] at hf
        simp only [iterL, hf, cond_true, Bool.true_or]
theorem any_loop' {σ : Type} {f : σ → Option (LRes σ α)} {K : Nat → σ → Option α} (st : Nat → σ) (n : Nat) (p : Nat → Bool) {b : Nat} {y : σ} (R : Option α) (h : ∀ i, i < n → f (st i) = bif p i then finL R else some (.cont (st (i + 1)))) (hend : f (st n) = some (.brk b y)) {N : Nat} (hN : n < N) : afterL (iterL N f (st 0)) K = bif (List.range n).any p then R else K b y := by
  rw [any_from st p (fin_not R) (brk_not b y) n h hend n 0 (by omega) N hN, ← List.range_eq_range']
  cases (List.range n).any p
  · rfl
  · cases R <;> rfl
theorem cmp_loop (b : Nat) (xs ys : List Int) (kf K : Option α) (hn : xs.length = ys.length) (hl : xs.length ≤ maxLen) {N : Nat} (hN : xs.length < N) :
    (afterL (iterL N (cmpF b xs ys kf) (0, ())) fun id _ => if id = b then K else none) = bif BEq.beq (α := List Int) xs ys then K else kf := by
  refine (any_loop' (fun i : Nat => ((i : Int), ())) xs.length (fun i => xs.getD i 0 != ys.getD i 0) (b := b) (y := ((xs.length : Int), ())) kf (fun i hi => ?_) ?_ hN).trans ?_
  · unfold cmpF
    simp only [lt_len hi, cond_true]
    rw [if_pos (in_len hi), if_pos (in_len (by omega)), wrap_next hi hl]
    rfl
  · unfold cmpF
    simp only [not_lt_len, cond_false]
  · have e := list_eq_getD hn
    rw [← e, if_pos rfl]
    cases (List.range xs.length).any fun i => xs.getD i 0 != ys.getD i 0 <;> rfl
theorem Sm.at {cs : List AVal} {j : Nat} {c : AVal} (h : Sm (.agg cs)) (hc : cs[j]? = some c) : Sm c := by
  cases h with
  | agg _ h => exact h j c hc
  | other _ h => cases h
theorem len_ne {xs ys : List Int} (h : ¬ xs.length = ys.length) : (BEq.beq (α := List Int) xs ys) = false := by
  rw [beq_eq_false_iff_ne]; rintro rfl; exact h rfl
end
set_option maxRecDepth 100000 in
theorem isame_text (N n0 : Nat) (α : Type) (cx cy sd w h : Int) (pb po : List Int) (cx' cy' sd' w' h' : Int) (pb' po' : List Int) (k : AOut → Option α) : evFn real tab ((twY fsIs spL).env real tab N (n0 + 8)) N Try.f24 α [.agg [.int .i64 cx, .int .i64 cy, .int .i64 sd, .int .i64 w, .int .i64 h, .ro (.int .i64) pb, .ro (.int .i64) po], .agg [.int .i64 cx', .int .i64 cy', .int .i64 sd', .int .i64 w', .int .i64 h', .ro (.int .i64) pb', .ro (.int .i64) po']] k =
    bif !(cx == cx' && (cy == cy' && true)) then k (b1 false) else
    bif sd != sd' then k (b1 false) else
    bif w != w' then k (b1 false) else
    bif h != h' then k (b1 false) else
    bif (pb.length : Int) != (pb'.length : Int) then k (b1 false) else
    bif (po.length : Int) != (po'.length : Int) then k (b1 false) else
      afterL (iterL N (cmpF 0 pb pb' (k (b1 false))) (0, ())) fun id _ => if id = 0 then
        afterL (iterL N (cmpF 2 po po' (k (b1 false))) (0, ())) fun id _ => if id = 2 then k (b1 true) else none
      else none := by kernel_rfl
--FIN isame | besom/besomref03.Same | $ICB $JCB | $ICE, $JCE | b1 (sameB $ICV $JCV)
theorem isame_fin (cx cy sd w h : Int) (pb po : List Int) (cx' cy' sd' w' h' : Int) (pb' po' : List Int) (hs : ∀ qSm ∈ ([.agg [.int .i64 cx, .int .i64 cy, .int .i64 sd, .int .i64 w, .int .i64 h, .ro (.int .i64) pb, .ro (.int .i64) po], .agg [.int .i64 cx', .int .i64 cy', .int .i64 sd', .int .i64 w', .int .i64 h', .ro (.int .i64) pb', .ro (.int .i64) po']] : List AVal), Sm qSm) : ∃ N n, ∀ α (k : AOut → Option α), evFn real tab ((twY fsIs spL).env real tab N n) N Try.f24 α [.agg [.int .i64 cx, .int .i64 cy, .int .i64 sd, .int .i64 w, .int .i64 h, .ro (.int .i64) pb, .ro (.int .i64) po], .agg [.int .i64 cx', .int .i64 cy', .int .i64 sd', .int .i64 w', .int .i64 h', .ro (.int .i64) pb', .ro (.int .i64) po']] k = k (b1 (sameB cx cy sd w h pb po cx' cy' sd' w' h' pb' po')) := by
  have sm : ∀ {j : Nat} {c : List AVal} {e : AVal}, AVal.agg c ∈ ([.agg [.int .i64 cx, .int .i64 cy, .int .i64 sd, .int .i64 w, .int .i64 h, .ro (.int .i64) pb, .ro (.int .i64) po], .agg [.int .i64 cx', .int .i64 cy', .int .i64 sd', .int .i64 w', .int .i64 h', .ro (.int .i64) pb', .ro (.int .i64) po']] : List AVal) → c[j]? = some e → Sm e := fun h1 h2 => (hs _ h1).at h2
  have l1 : pb.length ≤ maxLen := (sm (j := 5) (List.mem_cons_self ..) rfl).len
  have l2 : po.length ≤ maxLen := (sm (j := 6) (List.mem_cons_self ..) rfl).len
  refine ⟨pb.length + po.length + 1, 8, fun α k => (isame_text (pb.length + po.length + 1) 0 α cx cy sd w h pb po cx' cy' sd' w' h' pb' po' k).trans ?_⟩
  unfold sameB
  cases cx == cx'
  · rfl
  cases cy == cy'
  · rfl
  simp only [bne]
  cases sd == sd'
  · rfl
  cases w == w'
  · rfl
  cases h == h'
  · rfl
  by_cases n1 : pb.length = pb'.length
  · by_cases n2 : po.length = po'.length
    · rw [show ((pb.length : Int) == (pb'.length : Int)) = true by simp; omega, show ((po.length : Int) == (po'.length : Int)) = true by simp; omega]
      simp only [Bool.not_true, Bool.and_self, Bool.true_and, cond_false]
      rw [cmp_loop 2 po po' _ _ n2 l2 (by omega), cmp_loop 0 pb pb' _ _ n1 l1 (by omega)]
      cases BEq.beq (α := List Int) pb pb' <;> cases BEq.beq (α := List Int) po po' <;> rfl
    · rw [show ((pb.length : Int) == (pb'.length : Int)) = true by simp; omega, show ((po.length : Int) == (po'.length : Int)) = false by simp; omega, len_ne n2, Bool.and_false]
      rfl
  · rw [show ((pb.length : Int) == (pb'.length : Int)) = false by simp; omega, len_ne n1]
    rfl
--CON isame
noncomputable def isameS : Fsp := fun _ args k => match args with
  | [.agg [.int .i64 cx, .int .i64 cy, .int .i64 sd, .int .i64 w, .int .i64 h, .ro (.int .i64) pb, .ro (.int .i64) po], .agg [.int .i64 cx', .int .i64 cy', .int .i64 sd', .int .i64 w', .int .i64 h', .ro (.int .i64) pb', .ro (.int .i64) po']] => k (b1 (sameB cx cy sd w h pb po cx' cy' sd' w' h' pb' po'))
  | _ => none
theorem isameS_ok : FspOk Try.prog 24 isameS := tower_Y fsIs_ok spL_ok ⟨Try.func24, fun _ _ => by kernel_rfl⟩ (by intro α args k; unfold isameS; split <;> rfl) fun args out hSm hEq => by
  unfold isameS at hEq
  split at hEq
  · rename_i cx cy sd w h pb po cx' cy' sd' w' h' pb' po'
    obtain ⟨N, n, e⟩ := isame_fin cx cy sd w h pb po cx' cy' sd' w' h' pb' po' hSm
    exact ⟨N, n, (e AOut some).trans hEq⟩
  · cases hEq
--END
--FS fsIr | fsIs | isame
noncomputable def fsIr : FuncId → Option Fsp := fun g =>
  if g = 24 then some isameS else
  fsIs g
theorem fsIr_ok : FsOk fsIr :=
  fs_cons isameS_ok <|
  fsIs_ok
--END
end Go.Proofs.Ytbcjhjidhhecaaa

/- IceScraped: its text; what it comes to. -/
namespace Go.Proofs.Ytbcjhjidhhecaaa
open Go.RowKit

--AT fsIr spL twY
abbrev zcP (cx cy sd w x y u v by' : Int) (pb : List Int) : List Int := chgL (fun i => inBx cx cy sd w x y u v i && true) (fun i => capV i by') pb
abbrev zcZ (cx cy sd w x y u v : Int) (po : List Int) : List Int := chgL (fun i => inBx cx cy sd w x y u v i && true) (fun _ => 0) po
abbrev zcS (cx cy sd w x y u v tn mo : Int) (pb : List Int) : List Int := chgL (fun i => inBx cx cy sd w x y u v i && sprB w tn i) (fun i => moreV i mo) pb
abbrev zcU (cx cy sd w h x y u v : Int) (pb : List Int) : Int := meaS (fun i => inBx cx cy sd w x y u v i) pb (cels w h)
abbrev zcN (cx cy sd w h x y u v : Int) : Int := meaN (fun i => inBx cx cy sd w x y u v i) (cels w h)
abbrev zcG (mo tn : Int) : Bool := grnB mo && (decide (0 ≤ tn) && decide (tn ≤ 1))
abbrev zcE {α : Type} (cx cy sd w h : Int) (pb po : List Int) (x y u v mo tn : Int) (P Z S : List Int) (k : AOut → Option α) : Option α :=
  bif bxvB cx cy sd w h P Z x y u v && zcG mo tn then bif bxvB cx cy sd w h S Z x y u v then k (b1 false) else k (b1 false) else none
abbrev zcT {α : Type} (cx cy sd w h : Int) (pb po : List Int) (x y u v by' mo tn : Int) (P Z S : List Int) (k : AOut → Option α) : Option α :=
  bif bxvB cx cy sd w h pb po x y u v && grnB by' then
    bif bxvB cx cy sd w h P Z x y u v && grnB by' then
      bif bxvB cx cy sd w h P Z x y u v then
        bif bxvB cx cy sd w h P Z x y u v && zcG mo tn then
          bif bxvB cx cy sd w h S Z x y u v then
            bif !(sameB cx cy sd w h P Z cx cy sd w h (zcP cx cy sd w x y u v by' P) (zcZ cx cy sd w x y u v Z)) then k (b1 false)
            else bif zcN cx cy sd w h x y u v != zcN cx cy sd w h x y u v then k (b1 false)
            else bif decide (zcU cx cy sd w h x y u v P > IntKind.i64.wrap (zcN cx cy sd w h x y u v * by')) then k (b1 false)
            else bif decide (zcU cx cy sd w h x y u v S ≥ zcU cx cy sd w h x y u v P) then
              k (b1 (decide (zcU cx cy sd w h x y u v S ≤ IntKind.i64.wrap (zcU cx cy sd w h x y u v P + IntKind.i64.wrap (IntKind.i64.wrap ((IntKind.i64.wrap (zcN cx cy sd w h x y u v + h)).tdiv 2) * mo)))))
            else k (b1 false)
          else k (b1 false)
        else none
      else zcE cx cy sd w h pb po x y u v mo tn P Z S k
    else
      bif bxvB cx cy sd w h P Z x y u v then zcE cx cy sd w h pb po x y u v mo tn P Z S k
      else zcE cx cy sd w h pb po x y u v mo tn P Z S k
  else k (b1 ((2 : Int) == 2))
abbrev zcW {α : Type} (cx cy sd w h : Int) (pb po : List Int) (x y u v by' mo tn : Int) (k : AOut → Option α) : Option α :=
  zcT cx cy sd w h pb po x y u v by' mo tn (zcP cx cy sd w x y u v by' pb) (zcZ cx cy sd w x y u v po) (zcS cx cy sd w x y u v tn mo (zcP cx cy sd w x y u v by' pb)) k
set_option maxRecDepth 100000 in
theorem iscraped_text (N n0 : Nat) (α : Type) (cx cy sd w h : Int) (pb po : List Int) (x y u v dp dr : Int) (tn : Bool) (k : AOut → Option α) : evFn real tab ((twY fsIr spL).env real tab N (n0 + 8)) N Try.f7 α [.agg [.int .i64 cx, .int .i64 cy, .int .i64 sd, .int .i64 w, .int .i64 h, .ro (.int .i64) pb, .ro (.int .i64) po], .agg [.int .i64 x, .int .i64 y], .agg [.int .i64 u, .int .i64 v], .int .u16 dp, .int .u16 dr, .bool tn] k =
    bif decide ((pb.length : Int) > 400) then k (b1 true)
    else bif decide ((po.length : Int) > 400) then k (b1 true)
    else bif tn then zcW cx cy sd w h pb po x y u v ((IntKind.i64.wrap dp).tmod 1001) ((IntKind.i64.wrap dr).tmod 1001) 1 k
    else zcW cx cy sd w h pb po x y u v ((IntKind.i64.wrap dp).tmod 1001) ((IntKind.i64.wrap dr).tmod 1001) 0 k := by kernel_rfl
end Go.Proofs.Ytbcjhjidhhecaaa

/- IceScraped: it answers true. -/
namespace Go.Proofs.Ytbcjhjidhhecaaa
open Go.RowKit

/-! Lists changed: what stays. -/
theorem chg_all {hit : Nat → Bool} {f : Int → Int} {l : List Int} (h : l.all grnB = true) (hf : ∀ z, grnB z = true → grnB (f z) = true) : (chgL hit f l).all grnB = true := by
  rw [List.all_eq_true]
  intro z hz
  obtain ⟨i, hi, rfl⟩ := List.mem_map.1 hz
  have a : grnB (l.getD i 0) = true := by
    have := grn_at h i
    simp only [grnB, Bool.and_eq_true, decide_eq_true_eq]
    exact this
  cases hit i
  · exact a
  · exact hf _ a
theorem chg_chg {hit : Nat → Bool} {f : Int → Int} {l : List Int} (hf : ∀ z, f (f z) = f z) : chgL hit f (chgL hit f l) = chgL hit f l := by
  refine List.ext_getElem (by simp [chg_len]) fun i h1 h2 => ?_
  have a := chg_get hit f (chgL hit f l) (j := i) (by rw [chg_len]; rwa [chg_len, chg_len] at h1)
  have b := chg_get hit f l (j := i) (by rwa [chg_len] at h2)
  rw [List.getD_eq_getElem?_getD, List.getElem?_eq_getElem h1, Option.getD_some] at a
  rw [b] at a
  rw [List.getD_eq_getElem?_getD, List.getElem?_eq_getElem h2, Option.getD_some] at b
  rw [a, b]
  cases hit i
  · rfl
  · simp only [cond_true, hf]
theorem ice_lists {cx cy sd w h : Int} {pb po pb' po' : List Int} (hI : iceB cx cy sd w h pb po = true) (h1 : pb'.length = pb.length) (h2 : po'.length = po.length) (h3 : pb'.all grnB = true) (h4 : po'.all grnB = true) : iceB cx cy sd w h pb' po' = true := by
  unfold iceB at *
  rw [h1, h2, h3, h4]
  simp only [Bool.and_eq_true] at *
  exact ⟨hI.1, trivial, trivial⟩

/-! Sums over a box. -/
theorem mea_le (hit : Nat → Bool) (pb : List Int) (b : Int) (h : ∀ i, hit i = true → pb.getD i 0 ≤ b) : ∀ n, meaS hit pb n ≤ meaN hit n * b
  | 0 => by simp [meaS, meaN, foldC]
  | n + 1 => by
    have ih := mea_le hit pb b h n
    unfold meaS meaN at *
    simp only [foldC]
    cases hh : hit n
    · exact ih
    · have := h n hh
      simp only [cond_true, Int.add_mul]
      omega
theorem mea_more (hit spr : Nat → Bool) (pb pb' : List Int) (b : Int) (hb : 0 ≤ b) (h : ∀ i, hit i = true → spr i = true → pb.getD i 0 ≤ pb'.getD i 0 ∧ pb'.getD i 0 ≤ pb.getD i 0 + b) (h' : ∀ i, hit i = true → spr i = false → pb'.getD i 0 = pb.getD i 0) : ∀ n, meaS hit pb n ≤ meaS hit pb' n ∧ meaS hit pb' n ≤ meaS hit pb n + meaN (fun i => hit i && spr i) n * b
  | 0 => by simp [meaS, meaN, foldC]
  | n + 1 => by
    have ih := mea_more hit spr pb pb' b hb h h' n
    unfold meaS meaN at *
    simp only [foldC]
    cases hh : hit n
    · exact ih
    · cases hs : spr n
      · have := h' n hh hs
        simp only [cond_true, cond_false, Bool.and_false]
        omega
      · have := h n hh hs
        simp only [cond_true, Bool.and_true, Int.add_mul]
        omega
theorem div_next {n w : Int} (hn : 0 ≤ n) (hw : 0 < w) : (n % w + 1 < w → (n + 1) / w = n / w ∧ (n + 1) % w = n % w + 1) ∧ (n % w + 1 = w → (n + 1) / w = n / w + 1 ∧ (n + 1) % w = 0) := by
  have e := Int.mul_ediv_add_emod n w
  constructor
  · intro h
    have a : n + 1 = (n % w + 1) + n / w * w := by rw [Int.mul_comm w] at e; omega
    have b := Int.emod_nonneg n (show w ≠ 0 by omega)
    constructor
    · rw [a, Int.add_mul_ediv_right _ _ (by omega), Int.ediv_eq_zero_of_lt (by omega) h]; omega
    · conv => lhs; rw [a]
      rw [Int.add_mul_emod_self_right, Int.emod_eq_of_lt (by omega) h]
  · intro h
    have a : n + 1 = (n / w + 1) * w := by rw [Int.add_mul, Int.one_mul]; rw [Int.mul_comm w] at e; omega
    constructor
    · conv => lhs; rw [a]
      rw [Int.mul_ediv_cancel _ (by omega)]
    · rw [a]; exact Int.mul_emod_left _ _
/-- Of the cells of a box at most half, and one for each row, get drops. -/
theorem spr_half (cx cy sd w x y u v tn : Int) (hs : 1 ≤ sd) (hw : 1 ≤ w) (ht : 0 ≤ tn) : ∀ n : Nat,
    2 * meaN (fun i => inBx cx cy sd w x y u v i && sprB w tn i) n - meaN (fun i => inBx cx cy sd w x y u v i) n ≤ (n : Int) / w + 1 ∧
    (((n : Int) % w = 0 ∨ cx + (n : Int) % w * sd < x ∨ (inBx cx cy sd w x y u v n = true ∧ sprB w tn n = true)) → 2 * meaN (fun i => inBx cx cy sd w x y u v i && sprB w tn i) n - meaN (fun i => inBx cx cy sd w x y u v i) n ≤ (n : Int) / w)
  | 0 => by simp [meaN, foldC]
  | n + 1 => by
    obtain ⟨i1, i2⟩ := spr_half cx cy sd w x y u v tn hs hw ht n
    have e1 : meaN (fun i => inBx cx cy sd w x y u v i && sprB w tn i) (n + 1) = meaN (fun i => inBx cx cy sd w x y u v i && sprB w tn i) n + bif inBx cx cy sd w x y u v n && sprB w tn n then 1 else 0 := by
      unfold meaN; simp only [foldC]; cases inBx cx cy sd w x y u v n && sprB w tn n <;> simp
    have e2 : meaN (fun i => inBx cx cy sd w x y u v i) (n + 1) = meaN (fun i => inBx cx cy sd w x y u v i) n + bif inBx cx cy sd w x y u v n then 1 else 0 := by
      unfold meaN; simp only [foldC]; cases inBx cx cy sd w x y u v n <;> simp
    have p0 := Int.emod_nonneg (n : Int) (show w ≠ 0 by omega)
    have p1 := Int.emod_lt_of_pos (n : Int) (show 0 < w by omega)
    have d := div_next (show (0 : Int) ≤ n by omega) (show 0 < w by omega)
    have hle : 2 * meaN (fun i => inBx cx cy sd w x y u v i && sprB w tn i) (n + 1) - meaN (fun i => inBx cx cy sd w x y u v i) (n + 1) ≤ (n : Int) / w + 1 := by
      rw [e1, e2]
      cases hh : inBx cx cy sd w x y u v n
      · simp only [Bool.false_and, cond_false]; omega
      · cases hp : sprB w tn n
        · simp only [Bool.and_false, cond_false, cond_true]; omega
        · have := i2 (.inr (.inr ⟨hh, hp⟩))
          simp only [Bool.and_true, cond_true]; omega
    rw [show ((n + 1 : Nat) : Int) = (n : Int) + 1 by omega]
    by_cases hr : (n : Int) % w + 1 = w
    · obtain ⟨q1, q2⟩ := d.2 hr
      rw [q1]
      exact ⟨by omega, fun _ => hle⟩
    · obtain ⟨q1, q2⟩ := d.1 (by omega)
      rw [q1, q2]
      refine ⟨hle, fun hc => ?_⟩
      have sm : ((n : Int) % w + 1) * sd = (n : Int) % w * sd + sd := by rw [Int.add_mul, Int.one_mul]
      rw [e1, e2]
      rcases hc with hc | hc | ⟨h1, h2⟩
      · omega
      · -- not begun
        have := i2 (.inr (.inl (by omega)))
        have hn : inBx cx cy sd w x y u v n = false := by
          unfold inBx
          rw [decide_eq_false (show ¬ x ≤ cx + (n : Int) % w * sd by omega)]
          rfl
        rw [hn]
        simp only [Bool.false_and, cond_false]; omega
      · have hB : inBx cx cy sd w x y u v ((n : Int) + 1) = true := h1
        have hS : sprB w tn ((n : Int) + 1) = true := h2
        unfold inBx at hB
        unfold sprB at hS
        rw [q1, q2] at hB hS
        simp only [Bool.and_eq_true, decide_eq_true_eq] at hB
        rw [beq_iff_eq] at hS
        cases hh : inBx cx cy sd w x y u v n
        · have : cx + (n : Int) % w * sd < x := by
            unfold inBx at hh
            rw [decide_eq_true hB.1.2, decide_eq_true hB.2.2, decide_eq_true (show cx + (n : Int) % w * sd + sd ≤ u by omega)] at hh
            simp only [Bool.and_true, decide_eq_false_iff_not] at hh
            omega
          have := i2 (.inr (.inl this))
          simp only [Bool.false_and, cond_false]; omega
        · have hp : sprB w tn n = false := by
            unfold sprB
            rw [beq_eq_false_iff_ne]
            omega
          rw [hp]
          simp only [Bool.and_false, cond_false, cond_true]; omega
theorem cap_grn {by' z : Int} (hb : 0 ≤ by' ∧ by' ≤ 1000) (hz : grnB z = true) : grnB (capV z by') = true := by
  simp only [grnB, Bool.and_eq_true, decide_eq_true_eq] at *
  unfold capV
  split <;> omega
theorem cap_cap (b z : Int) : capV (capV z b) b = capV z b := by
  unfold capV
  by_cases hz : z < b
  · rw [if_pos hz, if_pos hz]
  · rw [if_neg hz]; split <;> rfl
theorem more_is {z b : Int} (hz : grnB z = true) (hb : 0 ≤ b ∧ b ≤ 1000) : grnB (moreV z b) = true ∧ z ≤ moreV z b ∧ moreV z b ≤ z + b := by
  simp only [grnB, Bool.and_eq_true, decide_eq_true_eq] at *
  unfold moreV
  rw [i64_in (z + b) (by omega)]
  split <;> omega
theorem same_self (cx cy sd w h : Int) (pb po : List Int) : sameB cx cy sd w h pb po cx cy sd w h pb po = true := by
  simp [sameB]
theorem scraped_true {α : Type} (cx cy sd w h : Int) (pb po : List Int) (x y u v b m tn : Int) (hb : 0 ≤ b ∧ b ≤ 1000) (hm : 0 ≤ m ∧ m ≤ 1000) (ht : 0 ≤ tn ∧ tn ≤ 1) (k : AOut → Option α) : zcW cx cy sd w h pb po x y u v b m tn k = k (b1 true) := by
  have gb : grnB b = true := by simp [grnB]; omega
  have gm : grnB m = true := by simp [grnB]; omega
  cases hB : bxvB cx cy sd w h pb po x y u v
  · unfold zcW zcT
    rw [hB]
    rfl
  have hB' := hB
  unfold bxvB at hB'
  rw [Bool.and_eq_true, Bool.and_eq_true] at hB'
  obtain ⟨⟨hI, hP⟩, hO⟩ := hB'
  have g := ice_is _ _ _ _ _ _ _ hI
  obtain ⟨c1, c2⟩ := cels_le g.fw g.fh
  have hpl := g.pl
  have pg : (zcP cx cy sd w x y u v b pb).all grnB = true := chg_all g.pg fun z hz => cap_grn hb hz
  have zg : (zcZ cx cy sd w x y u v po).all grnB = true := chg_all g.og fun z hz => rfl
  have sg : (zcS cx cy sd w x y u v tn m (zcP cx cy sd w x y u v b pb)).all grnB = true := chg_all pg fun z hz => (more_is hz hm).1
  have hl : (zcP cx cy sd w x y u v b pb).length = pb.length := chg_len ..
  have hlS : (zcS cx cy sd w x y u v tn m (zcP cx cy sd w x y u v b pb)).length = pb.length := (chg_len ..).trans hl
  have nE : zcN cx cy sd w h x y u v = meaN (fun i => inBx cx cy sd w x y u v i) (cels w h) := rfl
  have uP : zcU cx cy sd w h x y u v (zcP cx cy sd w x y u v b pb) = meaS (fun i => inBx cx cy sd w x y u v i) (zcP cx cy sd w x y u v b pb) (cels w h) := rfl
  have hI2 := ice_lists hI hl (chg_len ..) pg zg
  have hI3 := ice_lists hI ((chg_len ..).trans hl) (chg_len ..) sg zg
  have hB2 : bxvB cx cy sd w h (zcP cx cy sd w x y u v b pb) (zcZ cx cy sd w x y u v po) x y u v = true := by
    unfold bxvB; rw [hI2, hP, hO]; rfl
  have hB3 : bxvB cx cy sd w h (zcS cx cy sd w x y u v tn m (zcP cx cy sd w x y u v b pb)) (zcZ cx cy sd w x y u v po) x y u v = true := by
    unfold bxvB; rw [hI3, hP, hO]; rfl
  have s1 : zcP cx cy sd w x y u v b (zcP cx cy sd w x y u v b pb) = zcP cx cy sd w x y u v b pb := chg_chg fun z => cap_cap b z
  have s2 : zcZ cx cy sd w x y u v (zcZ cx cy sd w x y u v po) = zcZ cx cy sd w x y u v po := chg_chg fun z => rfl
  -- the numbers
  have hcl : cels w h = pb.length := by omega
  have hit_len : ∀ j : Nat, j < pb.length → (zcP cx cy sd w x y u v b pb).getD j 0 = bif inBx cx cy sd w x y u v j && true then capV (pb.getD j 0) b else pb.getD j 0 := fun j hj => chg_get _ _ _ hj
  have getP : ∀ i : Nat, inBx cx cy sd w x y u v i = true → (zcP cx cy sd w x y u v b pb).getD i 0 ≤ b := fun i hi => by
    rcases Nat.lt_or_ge i pb.length with hj | hj
    · rw [hit_len i hj, hi]
      simp only [Bool.and_true, cond_true]
      unfold capV; split <;> omega
    · rw [List.getD_eq_getElem?_getD, List.getElem?_eq_none (by omega)]
      exact hb.1
  have U1 := mea_le (fun i => inBx cx cy sd w x y u v i) (zcP cx cy sd w x y u v b pb) b getP (cels w h)
  have U2 := mea_more (fun i => inBx cx cy sd w x y u v i) (fun i => sprB w tn i) (zcP cx cy sd w x y u v b pb) (zcS cx cy sd w x y u v tn m (zcP cx cy sd w x y u v b pb)) m hm.1 (fun i hi hp => by
    rcases Nat.lt_or_ge i pb.length with hj | hj
    · have e := chg_get (fun i => inBx cx cy sd w x y u v i && sprB w tn i) (fun i => moreV i m) (zcP cx cy sd w x y u v b pb) (j := i) (by omega)
      rw [e, hi, hp]
      have := grn_at pg i
      have q := more_is (z := (zcP cx cy sd w x y u v b pb).getD i 0) (by simp only [grnB, Bool.and_eq_true, decide_eq_true_eq]; exact this) hm
      exact q.2
    · rw [List.getD_eq_getElem?_getD, List.getD_eq_getElem?_getD, List.getElem?_eq_none (by omega), List.getElem?_eq_none (by rw [chg_len]; omega)]
      simp only [Option.getD_none]; omega) (fun i hi hp => by
    rcases Nat.lt_or_ge i pb.length with hj | hj
    · have e := chg_get (fun i => inBx cx cy sd w x y u v i && sprB w tn i) (fun i => moreV i m) (zcP cx cy sd w x y u v b pb) (j := i) (by omega)
      rw [e, hi, hp]; rfl
    · rw [List.getD_eq_getElem?_getD, List.getD_eq_getElem?_getD, List.getElem?_eq_none (by omega), List.getElem?_eq_none (by rw [chg_len]; omega)]) (cels w h)
  have H := (spr_half cx cy sd w x y u v tn g.fs.1 g.fw.1 ht.1 (cels w h)).2 (.inl (by rw [c2, Int.mul_comm]; exact Int.mul_emod_left _ _))
  rw [c2, Int.mul_comm w h, Int.mul_ediv_cancel _ (show w ≠ 0 by have := g.fw; omega)] at H
  have N1 := mea_in (fun i => inBx cx cy sd w x y u v i) pg (cels w h)
  have N2 := mea_in (fun i => inBx cx cy sd w x y u v i && sprB w tn i) pg (cels w h)
  have mb := mul_in (a := zcN cx cy sd w h x y u v) (b := b) (A := 65536) (B := 1000) ⟨by have := N1.2; omega, by have := N1.2; omega⟩ ⟨by omega, by omega⟩
  have gh := g.fh
  unfold zcW zcT
  rw [hB, hB2, hB3, gb, s1, s2, same_self]
  unfold zcG
  rw [gm, decide_eq_true ht.1, decide_eq_true ht.2]
  simp only [Bool.and_self, cond_true, Bool.not_true, cond_false, bne_self_eq_false]
  rw [i64_in (zcN cx cy sd w h x y u v * b) (by omega), decide_eq_false (show ¬ zcU cx cy sd w h x y u v (zcP cx cy sd w x y u v b pb) > zcN cx cy sd w h x y u v * b by rw [nE, uP]; omega), cond_false, decide_eq_true (show zcU cx cy sd w h x y u v (zcS cx cy sd w x y u v tn m (zcP cx cy sd w x y u v b pb)) ≥ zcU cx cy sd w h x y u v (zcP cx cy sd w x y u v b pb) from U2.1), cond_true]
  have n1 := N1.2
  have n0 := N1.1
  rw [i64_in (zcN cx cy sd w h x y u v + h) (by omega), tdiv_pos (by omega), i64_in ((zcN cx cy sd w h x y u v + h) / 2) (by omega)]
  have mb2 := mul_in (a := (zcN cx cy sd w h x y u v + h) / 2) (b := m) (A := 65536) (B := 1000) ⟨by omega, by omega⟩ ⟨by omega, by omega⟩
  rw [i64_in ((zcN cx cy sd w h x y u v + h) / 2 * m) (by omega), i64_in (zcU cx cy sd w h x y u v (zcP cx cy sd w x y u v b pb) + (zcN cx cy sd w h x y u v + h) / 2 * m) (by omega)]
  have hm2 : meaN (fun i => inBx cx cy sd w x y u v i && sprB w tn i) (cels w h) * m ≤ (zcN cx cy sd w h x y u v + h) / 2 * m := Int.mul_le_mul_of_nonneg_right (by omega) hm.1
  rw [decide_eq_true (show zcU cx cy sd w h x y u v (zcS cx cy sd w x y u v tn m (zcP cx cy sd w x y u v b pb)) ≤ zcU cx cy sd w h x y u v (zcP cx cy sd w x y u v b pb) + (zcN cx cy sd w h x y u v + h) / 2 * m from Int.le_trans U2.2 (Int.add_le_add_left hm2 _))]
theorem per_in {d : Int} (hd : 0 ≤ d ∧ d ≤ 65535) : 0 ≤ (IntKind.i64.wrap d).tmod 1001 ∧ (IntKind.i64.wrap d).tmod 1001 ≤ 1000 := by
  rw [i64_in d (by omega), Int.tmod_eq_emod_of_nonneg hd.1]
  omega
theorem iscraped_true (cx cy sd w h : Int) (pb po : List Int) (x y u v dp dr : Int) (tn : Bool) (hpt : (0 ≤ dp ∧ dp ≤ 65535) ∧ 0 ≤ dr ∧ dr ≤ 65535) : evFn real tab ((twY fsIr spL).env real tab 8 8) 8 Try.f7 AOut [.agg [.int .i64 cx, .int .i64 cy, .int .i64 sd, .int .i64 w, .int .i64 h, .ro (.int .i64) pb, .ro (.int .i64) po], .agg [.int .i64 x, .int .i64 y], .agg [.int .i64 u, .int .i64 v], .int .u16 dp, .int .u16 dr, .bool tn] some = some (b1 true) := by
  refine (iscraped_text 8 0 AOut cx cy sd w h pb po x y u v dp dr tn some).trans ?_
  cases decide ((pb.length : Int) > 400)
  · cases decide ((po.length : Int) > 400)
    · cases tn
      · exact scraped_true cx cy sd w h pb po x y u v _ _ 0 (per_in hpt.1) (per_in hpt.2) (by omega) some
      · exact scraped_true cx cy sd w h pb po x y u v _ _ 1 (per_in hpt.1) (per_in hpt.2) (by omega) some
    · rfl
  · rfl
noncomputable def iscrapedF : List AVal → Option AOut := fun args => match args with
  | [.agg [.int .i64 cx, .int .i64 cy, .int .i64 sd, .int .i64 w, .int .i64 h, .ro (.int .i64) pb, .ro (.int .i64) po], .agg [.int .i64 x, .int .i64 y], .agg [.int .i64 u, .int .i64 v], .int .u16 dp, .int .u16 dr, .bool tn] => if (0 ≤ dp ∧ dp ≤ 65535) ∧ 0 ≤ dr ∧ dr ≤ 65535 then some (b1 true) else none
  | _ => none
theorem iscraped_ok : FspOk Try.prog 7 (toFsp iscrapedF) := tower_Y fsIr_ok spL_ok ⟨Try.func7, fun _ _ => by kernel_rfl⟩ (toFsp_nat _) fun args out hSm hq => by
  replace hq := toFsp_some hq
  unfold iscrapedF at hq
  split at hq
  · rename_i cx cy sd w h pb po x y u v dp dr tn
    split at hq
    · rename_i hpt
      cases hq
      exact ⟨8, 8, iscraped_true cx cy sd w h pb po x y u v dp dr tn hpt⟩
    · cases hq
  · cases hq
end Go.Proofs.Ytbcjhjidhhecaaa
