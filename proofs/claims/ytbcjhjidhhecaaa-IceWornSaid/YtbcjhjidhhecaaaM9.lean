/- Parts of the proof, in build order. -/
import Derived.Test.YtbcjhjidhhecaaaM8
/- IcePlaces: greatest common divisors, lists that are the same; the statement's text. -/
namespace Go.Proofs.Ytbcjhjidhhecaaa
open Go.RowKit

section
variable {α : Type}
def gcdF : Int × Int × Unit → Option (LRes (Int × Int × Unit) α) := fun x =>
  bif decide (x.2.1 > 0) then
    if x.2.1 = 0 then none else some (LRes.cont (x.2.1, x.1.tmod x.2.1, ()))
  else some (LRes.brk 0 (x.1, x.2.1, ()))
theorem gcd_loop : ∀ (m a b : Nat), b ≤ m → iterL (α := α) (m + 1) gcdF ((a : Int), (b : Int), ()) = some (.brk 0 ((Nat.gcd a b : Nat), 0, ()))
  | 0, a, b, hb => by
    have : b = 0 := by omega
    subst this
    simp [iterL, gcdF]
  | m + 1, a, b, hb => by
    rcases Nat.eq_zero_or_pos b with rfl | h0
    · simp [iterL, gcdF]
    · have e : gcdF (α := α) ((a : Int), (b : Int), ()) = some (LRes.cont ((b : Int), ((a % b : Nat) : Int), ())) := by
        unfold gcdF
        simp only
        rw [decide_eq_true (show (b : Int) > 0 by omega), cond_true, if_neg (by omega), Int.tmod_eq_emod_of_nonneg (by omega)]
        simp
      have ih := gcd_loop m b (a % b) (by have := Nat.mod_lt a h0; omega)
      conv => lhs; unfold iterL
      rw [e]
      simp only
      rw [ih, Nat.gcd_comm a b, Nat.gcd_rec b a, Nat.gcd_comm]
end
def smlB (a : Int) : Bool := decide (-70368744177664 ≤ a) && decide (a ≤ 70368744177664)
def gcdI (a b : Int) : Int := (Nat.gcd a.natAbs b.natAbs : Nat)
--AT fsIb spL twY
theorem igcd_text (N n0 : Nat) (α : Type) (a b : Int) (k : AOut → Option α) : evFn real tab ((twY fsIb spL).env real tab N (n0 + 8)) N Try.f12 α [.int .i64 a, .int .i64 b] k =
    afterL (iterL N gcdF (mx a (IntKind.i64.wrap (0 - a)), mx b (IntKind.i64.wrap (0 - b)), ())) fun id y => if id = 0 then k (i1 y.1) else none := by kernel_rfl
theorem mx_abs {a : Int} (h : smlB a = true) : mx a (IntKind.i64.wrap (0 - a)) = (a.natAbs : Int) := by
  simp only [smlB, Bool.and_eq_true, decide_eq_true_eq] at h
  rw [i64_in (0 - a) (by omega)]
  unfold mx
  split <;> omega
--FIN igcd | besom/besomlaw03.gcd | (a b : Int) | $I{a}, $I{b} | i1 (gcdI a b) | smlB a && smlB b
theorem igcd_fin (a b : Int) (hs : ∀ qSm ∈ ([.int .i64 a, .int .i64 b] : List AVal), Sm qSm) (hCo : (smlB a && smlB b) = true) : ∃ N n, ∀ α (k : AOut → Option α), evFn real tab ((twY fsIb spL).env real tab N n) N Try.f12 α [.int .i64 a, .int .i64 b] k = k (i1 (gcdI a b)) := by
  simp only [Bool.and_eq_true] at hCo
  refine ⟨b.natAbs + 1, 8, fun α k => (igcd_text (b.natAbs + 1) 0 α a b k).trans ?_⟩
  rw [mx_abs hCo.1, mx_abs hCo.2, gcd_loop b.natAbs _ _ (Nat.le_refl _)]
  rfl
--CON igcd
noncomputable def igcdS : Fsp := fun _ args k => match args with
  | [.int .i64 a, .int .i64 b] => bif smlB a && smlB b then k (i1 (gcdI a b)) else none
  | _ => none
theorem igcdS_ok : FspOk Try.prog 12 igcdS := tower_Y fsIb_ok spL_ok ⟨Try.func12, fun _ _ => by kernel_rfl⟩ (by intro α args k; unfold igcdS; split <;> simp only [cond_bind, Option.bind_some, Option.bind_none]) fun args out hSm hEq => by
  unfold igcdS at hEq
  split at hEq
  · rename_i a b
    cases hc : smlB a && smlB b
    · rw [hc] at hEq; cases hEq
    · rw [hc] at hEq
      obtain ⟨N, n, e⟩ := igcd_fin a b hSm hc
      exact ⟨N, n, (e AOut some).trans hEq⟩
  · cases hEq
--END
theorem iints_text (N n0 : Nat) (α : Type) (xs ys : List Int) (k : AOut → Option α) : evFn real tab ((twY fsIb spL).env real tab N (n0 + 8)) N Try.f14 α [.ro (.int .i64) xs, .ro (.int .i64) ys] k =
    bif (xs.length : Int) != (ys.length : Int) then k (b1 false)
    else
      afterL (iterL N (fun x : Int × Unit =>
        bif decide (x.1 < (xs.length : Int)) then
          if 0 ≤ x.1 ∧ x.1 < (xs.length : Int) then
            if 0 ≤ x.1 ∧ x.1 < (ys.length : Int) then
              bif xs.getD x.1.toNat 0 != ys.getD x.1.toNat 0 then finL (k (b1 false))
              else some (LRes.cont (IntKind.i64.wrap (x.1 + 1), ()))
            else none
          else none
        else some (LRes.brk 0 (x.1, ()))) (0, ())) fun id _ => if id = 0 then k (b1 true) else none := by kernel_rfl
theorem list_eq_getD {xs ys : List Int} (h : xs.length = ys.length) : (!(List.range xs.length).any fun i => xs.getD i 0 != ys.getD i 0) = (xs == ys) := by
  rw [Bool.eq_iff_iff, Bool.not_eq_true', beq_iff_eq]
  constructor
  · intro hn
    refine List.ext_getElem h fun i h1 h2 => ?_
    have : ¬ (xs.getD i 0 != ys.getD i 0) = true := fun hc => by
      have := (List.any_eq_true (p := fun i => xs.getD i 0 != ys.getD i 0)).2 ⟨i, List.mem_range.2 h1, hc⟩
      rw [hn] at this; cases this
    rw [List.getD_eq_getElem?_getD, List.getD_eq_getElem?_getD, List.getElem?_eq_getElem h1, List.getElem?_eq_getElem h2] at this
    simpa using this
  · rintro rfl
    simp
--FIN iints | besom/besomref03.Ints | (xs ys : List Int) | .ro (.int .i64) xs, .ro (.int .i64) ys | b1 (BEq.beq (α := List Int) xs ys)
theorem iints_fin (xs ys : List Int) (hs : ∀ qSm ∈ ([.ro (.int .i64) xs, .ro (.int .i64) ys] : List AVal), Sm qSm) : ∃ N n, ∀ α (k : AOut → Option α), evFn real tab ((twY fsIb spL).env real tab N n) N Try.f14 α [.ro (.int .i64) xs, .ro (.int .i64) ys] k = k (b1 (BEq.beq (α := List Int) xs ys)) := by
  have hl : xs.length ≤ maxLen := (hs _ (List.mem_cons_self ..)).len
  refine ⟨xs.length + 1, 8, fun α k => (iints_text (xs.length + 1) 0 α xs ys k).trans ?_⟩
  by_cases hn : xs.length = ys.length
  · rw [show ((xs.length : Int) != (ys.length : Int)) = false by simp [hn], cond_false]
    refine (any_loop (fun i : Nat => ((i : Int), ())) xs.length (fun i => xs.getD i 0 != ys.getD i 0) (b := 0) (y := ((xs.length : Int), ())) (k (b1 false)) (fun i hi => ?_) ?_).trans ?_
    · simp only [lt_len hi, cond_true]
      rw [if_pos (in_len hi), if_pos (in_len (by omega)), wrap_next hi hl]
      rfl
    · simp only [not_lt_len, cond_false]
    · have e := list_eq_getD hn
      rw [← e]
      cases (List.range xs.length).any fun i => xs.getD i 0 != ys.getD i 0 <;> rfl
  · rw [show ((xs.length : Int) != (ys.length : Int)) = true by simp; omega, cond_true]
    have : (xs == ys) = false := by
      rw [beq_eq_false_iff_ne]; rintro rfl; exact hn rfl
    rw [this]
--CON iints
noncomputable def iintsS : Fsp := fun _ args k => match args with
  | [.ro (.int .i64) xs, .ro (.int .i64) ys] => k (b1 (BEq.beq (α := List Int) xs ys))
  | _ => none
theorem iintsS_ok : FspOk Try.prog 14 iintsS := tower_Y fsIb_ok spL_ok ⟨Try.func14, fun _ _ => by kernel_rfl⟩ (by intro α args k; unfold iintsS; split <;> rfl) fun args out hSm hEq => by
  unfold iintsS at hEq
  split at hEq
  · rename_i xs ys
    obtain ⟨N, n, e⟩ := iints_fin xs ys hSm
    exact ⟨N, n, (e AOut some).trans hEq⟩
  · cases hEq
--END
--FS fsIc | fsIb | igcd;iints
noncomputable def fsIc : FuncId → Option Fsp := fun g =>
  if g = 12 then some igcdS else
  if g = 14 then some iintsS else
  fsIb g
theorem fsIc_ok : FsOk fsIc :=
  fs_cons igcdS_ok <|
  fs_cons iintsS_ok <|
  fsIb_ok
--END
end Go.Proofs.Ytbcjhjidhhecaaa

/- IceScraped: ices that are the same; its text. -/
namespace Go.Proofs.Ytbcjhjidhhecaaa
open Go.RowKit

--FS fsIs | fsI11 | ialive=besom/besomlaw03.alive;iints=besom/besomref03.Ints
noncomputable def fsIs : FuncId → Option Fsp := fun g =>
  if g = 9 then some ialiveS else
  if g = 14 then some iintsS else
  fsI11 g
theorem fsIs_ok : FsOk fsIs :=
  fs_cons ialiveS_ok <|
  fs_cons iintsS_ok <|
  fsI11_ok
--END
--AT fsIs spL twY
def sameB (cx cy sd w h : Int) (pb po : List Int) (cx' cy' sd' w' h' : Int) (pb' po' : List Int) : Bool :=
  ((cx == cx' && cy == cy') && (sd == sd' && (w == w' && h == h'))) && (BEq.beq (α := List Int) pb pb' && BEq.beq (α := List Int) po po')
section
variable {α : Type}
def cmpF (b : Nat) (xs ys : List Int) (kf : Option α) (x : Int × Unit) : Option (LRes (Int × Unit) α) :=
  bif decide (x.1 < (xs.length : Int)) then
    if 0 ≤ x.1 ∧ x.1 < (xs.length : Int) then
      if 0 ≤ x.1 ∧ x.1 < (ys.length : Int) then
        bif xs.getD x.1.toNat 0 != ys.getD x.1.toNat 0 then finL kf
        else some (LRes.cont (IntKind.i64.wrap (x.1 + 1), ()))
      else none
    else none
  else some (LRes.brk b (x.1, ()))
/-- As iterL_any, with more fuel than is needed. -/
theorem any_from {σ : Type} {f : σ → Option (LRes σ α)} (st : Nat → σ) (p : Nat → Bool) {R E : Option (LRes σ α)} (hR : ∀ y, R ≠ some (.cont y)) (hE : ∀ y, E ≠ some (.cont y)) (n : Nat) (h : ∀ i, i < n → f (st i) = bif p i then R else some (.cont (st (i + 1)))) (hend : f (st n) = E) :
    ∀ k m, m + k = n → ∀ N, k < N → iterL N f (st m) = bif (List.range' m k).any p then R else E
  | 0, m, hm, N, hN => by
    cases N with
    | zero => omega
    | succ N =>
      have : m = n := by omega
      subst this
      simp only [iterL, hend]
      simp only [List.range'_zero, List.any_nil, cond_false]
  | k + 1, m, hm, N, hN => by
    cases N with
    | zero => omega
    | succ N =>
      have hf := h m (by omega)
      have ih := any_from st p hR hE n h hend k (m + 1) (by omega) N (by omega)
      rw [List.range'_succ, List.any_cons]
      cases hp : p m
      · rw [hp] at hf
        rw [Bool.false_or, ← ih]
        conv => lhs; unfold iterL
        rw [hf]
        rfl
      · rw [hp] at hf
        simp only [iterL, hf, cond_true, Bool.true_or]
theorem any_loop' {σ : Type} {f : σ → Option (LRes σ α)} {K : Nat → σ → Option α} (st : Nat → σ) (n : Nat) (p : Nat → Bool) {b : Nat} {y : σ} (R : Option α) (h : ∀ i, i < n → f (st i) = bif p i then finL R else some (.cont (st (i + 1)))) (hend : f (st n) = some (.brk b y)) {N : Nat} (hN : n < N) : afterL (iterL N f (st 0)) K = bif (List.range n).any p then R else K b y := by
  rw [any_from st p (fin_not R) (brk_not b y) n h hend n 0 (by omega) N hN, ← List.range_eq_range']
  cases (List.range n).any p
  · rfl
  · cases R <;> rfl
theorem cmp_loop (b : Nat) (xs ys : List Int) (kf K : Option α) (hn : xs.length = ys.length) (hl : xs.length ≤ maxLen) {N : Nat} (hN : xs.length < N) :
    (afterL (iterL N (cmpF b xs ys kf) (0, ())) fun id _ => if id = b then K else none) = bif BEq.beq (α := List Int) xs ys then K else kf := by
  refine (any_loop' (fun i : Nat => ((i : Int), ())) xs.length (fun i => xs.getD i 0 != ys.getD i 0) (b := b) (y := ((xs.length : Int), ())) kf (fun i hi => ?_) ?_ hN).trans ?_
  · unfold cmpF
    simp only [lt_len hi, cond_true]
    rw [if_pos (in_len hi), if_pos (in_len (by omega)), wrap_next hi hl]
    rfl
  · unfold cmpF
    simp only [not_lt_len, cond_false]
  · have e := list_eq_getD hn
    rw [← e, if_pos rfl]
    cases (List.range xs.length).any fun i => xs.getD i 0 != ys.getD i 0 <;> rfl
theorem Sm.at {cs : List AVal} {j : Nat} {c : AVal} (h : Sm (.agg cs)) (hc : cs[j]? = some c) : Sm c := by
  cases h with
  | agg _ h => exact h j c hc
  | other _ h => cases h
theorem len_ne {xs ys : List Int} (h : ¬ xs.length = ys.length) : (BEq.beq (α := List Int) xs ys) = false := by
  rw [beq_eq_false_iff_ne]; rintro rfl; exact h rfl
end
set_option maxRecDepth 100000 in
theorem isame_text (N n0 : Nat) (α : Type) (cx cy sd w h : Int) (pb po : List Int) (cx' cy' sd' w' h' : Int) (pb' po' : List Int) (k : AOut → Option α) : evFn real tab ((twY fsIs spL).env real tab N (n0 + 8)) N Try.f24 α [.agg [.int .i64 cx, .int .i64 cy, .int .i64 sd, .int .i64 w, .int .i64 h, .ro (.int .i64) pb, .ro (.int .i64) po], .agg [.int .i64 cx', .int .i64 cy', .int .i64 sd', .int .i64 w', .int .i64 h', .ro (.int .i64) pb', .ro (.int .i64) po']] k =
    bif !(cx == cx' && (cy == cy' && true)) then k (b1 false) else
    bif sd != sd' then k (b1 false) else
    bif w != w' then k (b1 false) else
    bif h != h' then k (b1 false) else
    bif (pb.length : Int) != (pb'.length : Int) then k (b1 false) else
    bif (po.length : Int) != (po'.length : Int) then k (b1 false) else
      afterL (iterL N (cmpF 0 pb pb' (k (b1 false))) (0, ())) fun id _ => if id = 0 then
        afterL (iterL N (cmpF 2 po po' (k (b1 false))) (0, ())) fun id _ => if id = 2 then k (b1 true) else none
      else none := by kernel_rfl
--FIN isame | besom/besomref03.Same | $ICB $JCB | $ICE, $JCE | b1 (sameB $ICV $JCV)
theorem isame_fin (cx cy sd w h : Int) (pb po : List Int) (cx' cy' sd' w' h' : Int) (pb' po' : List Int) (hs : ∀ qSm ∈ ([.agg [.int .i64 cx, .int .i64 cy, .int .i64 sd, .int .i64 w, .int .i64 h, .ro (.int .i64) pb, .ro (.int .i64) po], .agg [.int .i64 cx', .int .i64 cy', .int .i64 sd', .int .i64 w', .int .i64 h', .ro (.int .i64) pb', .ro (.int .i64) po']] : List AVal), Sm qSm) : ∃ N n, ∀ α (k : AOut → Option α), evFn real tab ((twY fsIs spL).env real tab N n) N Try.f24 α [.agg [.int .i64 cx, .int .i64 cy, .int .i64 sd, .int .i64 w, .int .i64 h, .ro (.int .i64) pb, .ro (.int .i64) po], .agg [.int .i64 cx', .int .i64 cy', .int .i64 sd', .int .i64 w', .int .i64 h', .ro (.int .i64) pb', .ro (.int .i64) po']] k = k (b1 (sameB cx cy sd w h pb po cx' cy' sd' w' h' pb' po')) := by
  have sm : ∀ {j : Nat} {c : List AVal} {e : AVal}, AVal.agg c ∈ ([.agg [.int .i64 cx, .int .i64 cy, .int .i64 sd, .int .i64 w, .int .i64 h, .ro (.int .i64) pb, .ro (.int .i64) po], .agg [.int .i64 cx', .int .i64 cy', .int .i64 sd', .int .i64 w', .int .i64 h', .ro (.int .i64) pb', .ro (.int .i64) po']] : List AVal) → c[j]? = some e → Sm e := fun h1 h2 => (hs _ h1).at h2
  have l1 : pb.length ≤ maxLen := (sm (j := 5) (List.mem_cons_self ..) rfl).len
  have l2 : po.length ≤ maxLen := (sm (j := 6) (List.mem_cons_self ..) rfl).len
  refine ⟨pb.length + po.length + 1, 8, fun α k => (isame_text (pb.length + po.length + 1) 0 α cx cy sd w h pb po cx' cy' sd' w' h' pb' po' k).trans ?_⟩
  unfold sameB
  cases cx == cx'
  · rfl
  cases cy == cy'
  · rfl
  simp only [bne]
  cases sd == sd'
  · rfl
  cases w == w'
  · rfl
  cases h == h'
  · rfl
  by_cases n1 : pb.length = pb'.length
  · by_cases n2 : po.length = po'.length
    · rw [show ((pb.length : Int) == (pb'.length : Int)) = true by simp; omega, show ((po.length : Int) == (po'.length : Int)) = true by simp; omega]
      simp only [Bool.not_true, Bool.and_self, Bool.true_and, cond_false]
      rw [cmp_loop 2 po po' _ _ n2 l2 (by omega), cmp_loop 0 pb pb' _ _ n1 l1 (by omega)]
      cases BEq.beq (α := List Int) pb pb' <;> cases BEq.beq (α := List Int) po po' <;> rfl
    · rw [show ((pb.length : Int) == (pb'.length : Int)) = true by simp; omega, show ((po.length : Int) == (po'.length : Int)) = false by simp; omega, len_ne n2, Bool.and_false]
      rfl
  · rw [show ((pb.length : Int) == (pb'.length : Int)) = false by simp; omega, len_ne n1]
    rfl
--CON isame
noncomputable def isameS : Fsp := fun _ args k => match args with
  | [.agg [.int .i64 cx, .int .i64 cy, .int .i64 sd, .int .i64 w, .int .i64 h, .ro (.int .i64) pb, .ro (.int .i64) po], .agg [.int .i64 cx', .int .i64 cy', .int .i64 sd', .int .i64 w', .int .i64 h', .ro (.int .i64) pb', .ro (.int .i64) po']] => k (b1 (sameB cx cy sd w h pb po cx' cy' sd' w' h' pb' po'))
  | _ => none
theorem isameS_ok : FspOk Try.prog 24 isameS := tower_Y fsIs_ok spL_ok ⟨Try.func24, fun _ _ => by kernel_rfl⟩ (by intro α args k; unfold isameS; split <;> rfl) fun args out hSm hEq => by
  unfold isameS at hEq
  split at hEq
  · rename_i cx cy sd w h pb po cx' cy' sd' w' h' pb' po'
    obtain ⟨N, n, e⟩ := isame_fin cx cy sd w h pb po cx' cy' sd' w' h' pb' po' hSm
    exact ⟨N, n, (e AOut some).trans hEq⟩
  · cases hEq
--END
--FS fsIr | fsIs | isame
noncomputable def fsIr : FuncId → Option Fsp := fun g =>
  if g = 24 then some isameS else
  fsIs g
theorem fsIr_ok : FsOk fsIr :=
  fs_cons isameS_ok <|
  fsIs_ok
--END
end Go.Proofs.Ytbcjhjidhhecaaa

/- IceScraped: its text; what it comes to. -/
namespace Go.Proofs.Ytbcjhjidhhecaaa
open Go.RowKit

--AT fsIr spL twY
abbrev zcP (cx cy sd w x y u v by' : Int) (pb : List Int) : List Int := chgL (fun i => inBx cx cy sd w x y u v i && true) (fun i => capV i by') pb
abbrev zcZ (cx cy sd w x y u v : Int) (po : List Int) : List Int := chgL (fun i => inBx cx cy sd w x y u v i && true) (fun _ => 0) po
abbrev zcS (cx cy sd w x y u v tn mo : Int) (pb : List Int) : List Int := chgL (fun i => inBx cx cy sd w x y u v i && sprB w tn i) (fun i => moreV i mo) pb
abbrev zcU (cx cy sd w h x y u v : Int) (pb : List Int) : Int := meaS (fun i => inBx cx cy sd w x y u v i) pb (cels w h)
abbrev zcN (cx cy sd w h x y u v : Int) : Int := meaN (fun i => inBx cx cy sd w x y u v i) (cels w h)
abbrev zcG (mo tn : Int) : Bool := grnB mo && (decide (0 ≤ tn) && decide (tn ≤ 1))
abbrev zcE {α : Type} (cx cy sd w h : Int) (pb po : List Int) (x y u v mo tn : Int) (P Z S : List Int) (k : AOut → Option α) : Option α :=
  bif bxvB cx cy sd w h P Z x y u v && zcG mo tn then bif bxvB cx cy sd w h S Z x y u v then k (b1 false) else k (b1 false) else none
abbrev zcT {α : Type} (cx cy sd w h : Int) (pb po : List Int) (x y u v by' mo tn : Int) (P Z S : List Int) (k : AOut → Option α) : Option α :=
  bif bxvB cx cy sd w h pb po x y u v && grnB by' then
    bif bxvB cx cy sd w h P Z x y u v && grnB by' then
      bif bxvB cx cy sd w h P Z x y u v then
        bif bxvB cx cy sd w h P Z x y u v && zcG mo tn then
          bif bxvB cx cy sd w h S Z x y u v then
            bif !(sameB cx cy sd w h P Z cx cy sd w h (zcP cx cy sd w x y u v by' P) (zcZ cx cy sd w x y u v Z)) then k (b1 false)
            else bif zcN cx cy sd w h x y u v != zcN cx cy sd w h x y u v then k (b1 false)
            else bif decide (zcU cx cy sd w h x y u v P > IntKind.i64.wrap (zcN cx cy sd w h x y u v * by')) then k (b1 false)
            else bif decide (zcU cx cy sd w h x y u v S ≥ zcU cx cy sd w h x y u v P) then
              k (b1 (decide (zcU cx cy sd w h x y u v S ≤ IntKind.i64.wrap (zcU cx cy sd w h x y u v P + IntKind.i64.wrap (IntKind.i64.wrap ((IntKind.i64.wrap (zcN cx cy sd w h x y u v + h)).tdiv 2) * mo)))))
            else k (b1 false)
          else k (b1 false)
        else none
      else zcE cx cy sd w h pb po x y u v mo tn P Z S k
    else
      bif bxvB cx cy sd w h P Z x y u v then zcE cx cy sd w h pb po x y u v mo tn P Z S k
      else zcE cx cy sd w h pb po x y u v mo tn P Z S k
  else k (b1 ((2 : Int) == 2))
abbrev zcW {α : Type} (cx cy sd w h : Int) (pb po : List Int) (x y u v by' mo tn : Int) (k : AOut → Option α) : Option α :=
  zcT cx cy sd w h pb po x y u v by' mo tn (zcP cx cy sd w x y u v by' pb) (zcZ cx cy sd w x y u v po) (zcS cx cy sd w x y u v tn mo (zcP cx cy sd w x y u v by' pb)) k
set_option maxRecDepth 100000 in
theorem iscraped_text (N n0 : Nat) (α : Type) (cx cy sd w h : Int) (pb po : List Int) (x y u v dp dr : Int) (tn : Bool) (k : AOut → Option α) : evFn real tab ((twY fsIr spL).env real tab N (n0 + 8)) N Try.f7 α [.agg [.int .i64 cx, .int .i64 cy, .int .i64 sd, .int .i64 w, .int .i64 h, .ro (.int .i64) pb, .ro (.int .i64) po], .agg [.int .i64 x, .int .i64 y], .agg [.int .i64 u, .int .i64 v], .int .u16 dp, .int .u16 dr, .bool tn] k =
    bif decide ((pb.length : Int) > 400) then k (b1 true)
    else bif decide ((po.length : Int) > 400) then k (b1 true)
    else bif tn then zcW cx cy sd w h pb po x y u v ((IntKind.i64.wrap dp).tmod 1001) ((IntKind.i64.wrap dr).tmod 1001) 1 k
    else zcW cx cy sd w h pb po x y u v ((IntKind.i64.wrap dp).tmod 1001) ((IntKind.i64.wrap dr).tmod 1001) 0 k := by kernel_rfl
end Go.Proofs.Ytbcjhjidhhecaaa

/- IceScraped: it answers true. -/
namespace Go.Proofs.Ytbcjhjidhhecaaa
open Go.RowKit

/-! Lists changed: what stays. -/
theorem chg_all {hit : Nat → Bool} {f : Int → Int} {l : List Int} (h : l.all grnB = true) (hf : ∀ z, grnB z = true → grnB (f z) = true) : (chgL hit f l).all grnB = true := by
  rw [List.all_eq_true]
  intro z hz
  obtain ⟨i, hi, rfl⟩ := List.mem_map.1 hz
  have a : grnB (l.getD i 0) = true := by
    have := grn_at h i
    simp only [grnB, Bool.and_eq_true, decide_eq_true_eq]
    exact this
  cases hit i
  · exact a
  · exact hf _ a
theorem chg_chg {hit : Nat → Bool} {f : Int → Int} {l : List Int} (hf : ∀ z, f (f z) = f z) : chgL hit f (chgL hit f l) = chgL hit f l := by
  refine List.ext_getElem (by simp [chg_len]) fun i h1 h2 => ?_
  have a := chg_get hit f (chgL hit f l) (j := i) (by rw [chg_len]; rwa [chg_len, chg_len] at h1)
  have b := chg_get hit f l (j := i) (by rwa [chg_len] at h2)
  rw [List.getD_eq_getElem?_getD, List.getElem?_eq_getElem h1, Option.getD_some] at a
  rw [b] at a
  rw [List.getD_eq_getElem?_getD, List.getElem?_eq_getElem h2, Option.getD_some] at b
  rw [a, b]
  cases hit i
  · rfl
  · simp only [cond_true, hf]
theorem ice_lists {cx cy sd w h : Int} {pb po pb' po' : List Int} (hI : iceB cx cy sd w h pb po = true) (h1 : pb'.length = pb.length) (h2 : po'.length = po.length) (h3 : pb'.all grnB = true) (h4 : po'.all grnB = true) : iceB cx cy sd w h pb' po' = true := by
  unfold iceB at *
  rw [h1, h2, h3, h4]
  simp only [Bool.and_eq_true] at *
  exact ⟨hI.1, trivial, trivial⟩

/-! Sums over a box. -/
theorem mea_le (hit : Nat → Bool) (pb : List Int) (b : Int) (h : ∀ i, hit i = true → pb.getD i 0 ≤ b) : ∀ n, meaS hit pb n ≤ meaN hit n * b
  | 0 => by simp [meaS, meaN, foldC]
  | n + 1 => by
    have ih := mea_le hit pb b h n
    unfold meaS meaN at *
    simp only [foldC]
    cases hh : hit n
    · exact ih
    · have := h n hh
      simp only [cond_true, Int.add_mul]
      omega
theorem mea_more (hit spr : Nat → Bool) (pb pb' : List Int) (b : Int) (hb : 0 ≤ b) (h : ∀ i, hit i = true → spr i = true → pb.getD i 0 ≤ pb'.getD i 0 ∧ pb'.getD i 0 ≤ pb.getD i 0 + b) (h' : ∀ i, hit i = true → spr i = false → pb'.getD i 0 = pb.getD i 0) : ∀ n, meaS hit pb n ≤ meaS hit pb' n ∧ meaS hit pb' n ≤ meaS hit pb n + meaN (fun i => hit i && spr i) n * b
  | 0 => by simp [meaS, meaN, foldC]
  | n + 1 => by
    have ih := mea_more hit spr pb pb' b hb h h' n
    unfold meaS meaN at *
    simp only [foldC]
    cases hh : hit n
    · exact ih
    · cases hs : spr n
      · have := h' n hh hs
        simp only [cond_true, cond_false, Bool.and_false]
        omega
      · have := h n hh hs
        simp only [cond_true, Bool.and_true, Int.add_mul]
        omega
theorem div_next {n w : Int} (hn : 0 ≤ n) (hw : 0 < w) : (n % w + 1 < w → (n + 1) / w = n / w ∧ (n + 1) % w = n % w + 1) ∧ (n % w + 1 = w → (n + 1) / w = n / w + 1 ∧ (n + 1) % w = 0) := by
  have e := Int.mul_ediv_add_emod n w
  constructor
  · intro h
    have a : n + 1 = (n % w + 1) + n / w * w := by rw [Int.mul_comm w] at e; omega
    have b := Int.emod_nonneg n (show w ≠ 0 by omega)
    constructor
    · rw [a, Int.add_mul_ediv_right _ _ (by omega), Int.ediv_eq_zero_of_lt (by omega) h]; omega
    · conv => lhs; rw [a]
      rw [Int.add_mul_emod_self_right, Int.emod_eq_of_lt (by omega) h]
  · intro h
    have a : n + 1 = (n / w + 1) * w := by rw [Int.add_mul, Int.one_mul]; rw [Int.mul_comm w] at e; omega
    constructor
    · conv => lhs; rw [a]
      rw [Int.mul_ediv_cancel _ (by omega)]
    · rw [a]; exact Int.mul_emod_left _ _
/-- Of the cells of a box at most half, and one for each row, get drops. -/
theorem spr_half (cx cy sd w x y u v tn : Int) (hs : 1 ≤ sd) (hw : 1 ≤ w) (ht : 0 ≤ tn) : ∀ n : Nat,
    2 * meaN (fun i => inBx cx cy sd w x y u v i && sprB w tn i) n - meaN (fun i => inBx cx cy sd w x y u v i) n ≤ (n : Int) / w + 1 ∧
    (((n : Int) % w = 0 ∨ cx + (n : Int) % w * sd < x ∨ (inBx cx cy sd w x y u v n = true ∧ sprB w tn n = true)) → 2 * meaN (fun i => inBx cx cy sd w x y u v i && sprB w tn i) n - meaN (fun i => inBx cx cy sd w x y u v i) n ≤ (n : Int) / w)
  | 0 => by simp [meaN, foldC]
  | n + 1 => by
    obtain ⟨i1, i2⟩ := spr_half cx cy sd w x y u v tn hs hw ht n
    have e1 : meaN (fun i => inBx cx cy sd w x y u v i && sprB w tn i) (n + 1) = meaN (fun i => inBx cx cy sd w x y u v i && sprB w tn i) n + bif inBx cx cy sd w x y u v n && sprB w tn n then 1 else 0 := by
      unfold meaN; simp only [foldC]; cases inBx cx cy sd w x y u v n && sprB w tn n <;> simp
    have e2 : meaN (fun i => inBx cx cy sd w x y u v i) (n + 1) = meaN (fun i => inBx cx cy sd w x y u v i) n + bif inBx cx cy sd w x y u v n then 1 else 0 := by
      unfold meaN; simp only [foldC]; cases inBx cx cy sd w x y u v n <;> simp
    have p0 := Int.emod_nonneg (n : Int) (show w ≠ 0 by omega)
    have p1 := Int.emod_lt_of_pos (n : Int) (show 0 < w by omega)
    have d := div_next (show (0 : Int) ≤ n by omega) (show 0 < w by omega)
    have hle : 2 * meaN (fun i => inBx cx cy sd w x y u v i && sprB w tn i) (n + 1) - meaN (fun i => inBx cx cy sd w x y u v i) (n + 1) ≤ (n : Int) / w + 1 := by
      rw [e1, e2]
      cases hh : inBx cx cy sd w x y u v n
      · simp only [Bool.false_and, cond_false]; omega
      · cases hp : sprB w tn n
        · simp only [Bool.and_false, cond_false, cond_true]; omega
        · have := i2 (.inr (.inr ⟨hh, hp⟩))
          simp only [Bool.and_true, cond_true]; omega
    rw [show ((n + 1 : Nat) : Int) = (n : Int) + 1 by omega]
    by_cases hr : (n : Int) % w + 1 = w
    · obtain ⟨q1, q2⟩ := d.2 hr
      rw [q1]
      exact ⟨by omega, fun _ => hle⟩
    · obtain ⟨q1, q2⟩ := d.1 (by omega)
      rw [q1, q2]
      refine ⟨hle, fun hc => ?_⟩
      have sm : ((n : Int) % w + 1) * sd = (n : Int) % w * sd + sd := by rw [Int.add_mul, Int.one_mul]
      rw [e1, e2]
      rcases hc with hc | hc | ⟨h1, h2⟩
      · omega
      · -- not begun
        have := i2 (.inr (.inl (by omega)))
        have hn : inBx cx cy sd w x y u v n = false := by
          unfold inBx
          rw [decide_eq_false (show ¬ x ≤ cx + (n : Int) % w * sd by omega)]
          rfl
        rw [hn]
        simp only [Bool.false_and, cond_false]; omega
      · have hB : inBx cx cy sd w x y u v ((n : Int) + 1) = true := h1
        have hS : sprB w tn ((n : Int) + 1) = true := h2
        unfold inBx at hB
        unfold sprB at hS
        rw [q1, q2] at hB hS
        simp only [Bool.and_eq_true, decide_eq_true_eq] at hB
        rw [beq_iff_eq] at hS
        cases hh : inBx cx cy sd w x y u v n
        · have : cx + (n : Int) % w * sd < x := by
            unfold inBx at hh
            rw [decide_eq_true hB.1.2, decide_eq_true hB.2.2, decide_eq_true (show cx + (n : Int) % w * sd + sd ≤ u by omega)] at hh
            simp only [Bool.and_true, decide_eq_false_iff_not] at hh
            omega
          have := i2 (.inr (.inl this))
          simp only [Bool.false_and, cond_false]; omega
        · have hp : sprB w tn n = false := by
            unfold sprB
            rw [beq_eq_false_iff_ne]
            omega
          rw [hp]
          simp only [Bool.and_false, cond_false, cond_true]; omega
theorem cap_grn {by' z : Int} (hb : 0 ≤ by' ∧ by' ≤ 1000) (hz : grnB z = true) : grnB (capV z by') = true := by
  simp only [grnB, Bool.and_eq_true, decide_eq_true_eq] at *
  unfold capV
  split <;> omega
theorem cap_cap (b z : Int) : capV (capV z b) b = capV z b := by
  unfold capV
  by_cases hz : z < b
  · rw [if_pos hz, if_pos hz]
  · rw [if_neg hz]; split <;> rfl
theorem more_is {z b : Int} (hz : grnB z = true) (hb : 0 ≤ b ∧ b ≤ 1000) : grnB (moreV z b) = true ∧ z ≤ moreV z b ∧ moreV z b ≤ z + b := by
  simp only [grnB, Bool.and_eq_true, decide_eq_true_eq] at *
  unfold moreV
  rw [i64_in (z + b) (by omega)]
  split <;> omega
theorem same_self (cx cy sd w h : Int) (pb po : List Int) : sameB cx cy sd w h pb po cx cy sd w h pb po = true := by
  simp [sameB]
theorem scraped_true {α : Type} (cx cy sd w h : Int) (pb po : List Int) (x y u v b m tn : Int) (hb : 0 ≤ b ∧ b ≤ 1000) (hm : 0 ≤ m ∧ m ≤ 1000) (ht : 0 ≤ tn ∧ tn ≤ 1) (k : AOut → Option α) : zcW cx cy sd w h pb po x y u v b m tn k = k (b1 true) := by
  have gb : grnB b = true := by simp [grnB]; omega
  have gm : grnB m = true := by simp [grnB]; omega
  cases hB : bxvB cx cy sd w h pb po x y u v
  · unfold zcW zcT
    rw [hB]
    rfl
  have hB' := hB
  unfold bxvB at hB'
  rw [Bool.and_eq_true, Bool.and_eq_true] at hB'
  obtain ⟨⟨hI, hP⟩, hO⟩ := hB'
  have g := ice_is _ _ _ _ _ _ _ hI
  obtain ⟨c1, c2⟩ := cels_le g.fw g.fh
  have hpl := g.pl
  have pg : (zcP cx cy sd w x y u v b pb).all grnB = true := chg_all g.pg fun z hz => cap_grn hb hz
  have zg : (zcZ cx cy sd w x y u v po).all grnB = true := chg_all g.og fun z hz => rfl
  have sg : (zcS cx cy sd w x y u v tn m (zcP cx cy sd w x y u v b pb)).all grnB = true := chg_all pg fun z hz => (more_is hz hm).1
  have hl : (zcP cx cy sd w x y u v b pb).length = pb.length := chg_len ..
  have hlS : (zcS cx cy sd w x y u v tn m (zcP cx cy sd w x y u v b pb)).length = pb.length := (chg_len ..).trans hl
  have nE : zcN cx cy sd w h x y u v = meaN (fun i => inBx cx cy sd w x y u v i) (cels w h) := rfl
  have uP : zcU cx cy sd w h x y u v (zcP cx cy sd w x y u v b pb) = meaS (fun i => inBx cx cy sd w x y u v i) (zcP cx cy sd w x y u v b pb) (cels w h) := rfl
  have hI2 := ice_lists hI hl (chg_len ..) pg zg
  have hI3 := ice_lists hI ((chg_len ..).trans hl) (chg_len ..) sg zg
  have hB2 : bxvB cx cy sd w h (zcP cx cy sd w x y u v b pb) (zcZ cx cy sd w x y u v po) x y u v = true := by
    unfold bxvB; rw [hI2, hP, hO]; rfl
  have hB3 : bxvB cx cy sd w h (zcS cx cy sd w x y u v tn m (zcP cx cy sd w x y u v b pb)) (zcZ cx cy sd w x y u v po) x y u v = true := by
    unfold bxvB; rw [hI3, hP, hO]; rfl
  have s1 : zcP cx cy sd w x y u v b (zcP cx cy sd w x y u v b pb) = zcP cx cy sd w x y u v b pb := chg_chg fun z => cap_cap b z
  have s2 : zcZ cx cy sd w x y u v (zcZ cx cy sd w x y u v po) = zcZ cx cy sd w x y u v po := chg_chg fun z => rfl
  -- the numbers
  have hcl : cels w h = pb.length := by omega
  have hit_len : ∀ j : Nat, j < pb.length → (zcP cx cy sd w x y u v b pb).getD j 0 = bif inBx cx cy sd w x y u v j && true then capV (pb.getD j 0) b else pb.getD j 0 := fun j hj => chg_get _ _ _ hj
  have getP : ∀ i : Nat, inBx cx cy sd w x y u v i = true → (zcP cx cy sd w x y u v b pb).getD i 0 ≤ b := fun i hi => by
    rcases Nat.lt_or_ge i pb.length with hj | hj
    · rw [hit_len i hj, hi]
      simp only [Bool.and_true, cond_true]
      unfold capV; split <;> omega
    · rw [List.getD_eq_getElem?_getD, List.getElem?_eq_none (by omega)]
      exact hb.1
  have U1 := mea_le (fun i => inBx cx cy sd w x y u v i) (zcP cx cy sd w x y u v b pb) b getP (cels w h)
  have U2 := mea_more (fun i => inBx cx cy sd w x y u v i) (fun i => sprB w tn i) (zcP cx cy sd w x y u v b pb) (zcS cx cy sd w x y u v tn m (zcP cx cy sd w x y u v b pb)) m hm.1 (fun i hi hp => by
    rcases Nat.lt_or_ge i pb.length with hj | hj
    · have e := chg_get (fun i => inBx cx cy sd w x y u v i && sprB w tn i) (fun i => moreV i m) (zcP cx cy sd w x y u v b pb) (j := i) (by omega)
      rw [e, hi, hp]
      have := grn_at pg i
      have q := more_is (z := (zcP cx cy sd w x y u v b pb).getD i 0) (by simp only [grnB, Bool.and_eq_true, decide_eq_true_eq]; exact this) hm
      exact q.2
    · rw [List.getD_eq_getElem?_getD, List.getD_eq_getElem?_getD, List.getElem?_eq_none (by omega), List.getElem?_eq_none (by rw [chg_len]; omega)]
      simp only [Option.getD_none]; omega) (fun i hi hp => by
    rcases Nat.lt_or_ge i pb.length with hj | hj
    · have e := chg_get (fun i => inBx cx cy sd w x y u v i && sprB w tn i) (fun i => moreV i m) (zcP cx cy sd w x y u v b pb) (j := i) (by omega)
      rw [e, hi, hp]; rfl
    · rw [List.getD_eq_getElem?_getD, List.getD_eq_getElem?_getD, List.getElem?_eq_none (by omega), List.getElem?_eq_none (by rw [chg_len]; omega)]) (cels w h)
  have H := (spr_half cx cy sd w x y u v tn g.fs.1 g.fw.1 ht.1 (cels w h)).2 (.inl (by rw [c2, Int.mul_comm]; exact Int.mul_emod_left _ _))
  rw [c2, Int.mul_comm w h, Int.mul_ediv_cancel _ (show w ≠ 0 by have := g.fw; omega)] at H
  have N1 := mea_in (fun i => inBx cx cy sd w x y u v i) pg (cels w h)
  have N2 := mea_in (fun i => inBx cx cy sd w x y u v i && sprB w tn i) pg (cels w h)
  have mb := mul_in (a := zcN cx cy sd w h x y u v) (b := b) (A := 65536) (B := 1000) ⟨by have := N1.2; omega, by have := N1.2; omega⟩ ⟨by omega, by omega⟩
  have gh := g.fh
  unfold zcW zcT
  rw [hB, hB2, hB3, gb, s1, s2, same_self]
  unfold zcG
  rw [gm, decide_eq_true ht.1, decide_eq_true ht.2]
  simp only [Bool.and_self, cond_true, Bool.not_true, cond_false, bne_self_eq_false]
  rw [i64_in (zcN cx cy sd w h x y u v * b) (by omega), decide_eq_false (show ¬ zcU cx cy sd w h x y u v (zcP cx cy sd w x y u v b pb) > zcN cx cy sd w h x y u v * b by rw [nE, uP]; omega), cond_false, decide_eq_true (show zcU cx cy sd w h x y u v (zcS cx cy sd w x y u v tn m (zcP cx cy sd w x y u v b pb)) ≥ zcU cx cy sd w h x y u v (zcP cx cy sd w x y u v b pb) from U2.1), cond_true]
  have n1 := N1.2
  have n0 := N1.1
  rw [i64_in (zcN cx cy sd w h x y u v + h) (by omega), tdiv_pos (by omega), i64_in ((zcN cx cy sd w h x y u v + h) / 2) (by omega)]
  have mb2 := mul_in (a := (zcN cx cy sd w h x y u v + h) / 2) (b := m) (A := 65536) (B := 1000) ⟨by omega, by omega⟩ ⟨by omega, by omega⟩
  rw [i64_in ((zcN cx cy sd w h x y u v + h) / 2 * m) (by omega), i64_in (zcU cx cy sd w h x y u v (zcP cx cy sd w x y u v b pb) + (zcN cx cy sd w h x y u v + h) / 2 * m) (by omega)]
  have hm2 : meaN (fun i => inBx cx cy sd w x y u v i && sprB w tn i) (cels w h) * m ≤ (zcN cx cy sd w h x y u v + h) / 2 * m := Int.mul_le_mul_of_nonneg_right (by omega) hm.1
  rw [decide_eq_true (show zcU cx cy sd w h x y u v (zcS cx cy sd w x y u v tn m (zcP cx cy sd w x y u v b pb)) ≤ zcU cx cy sd w h x y u v (zcP cx cy sd w x y u v b pb) + (zcN cx cy sd w h x y u v + h) / 2 * m from Int.le_trans U2.2 (Int.add_le_add_left hm2 _))]
theorem per_in {d : Int} (hd : 0 ≤ d ∧ d ≤ 65535) : 0 ≤ (IntKind.i64.wrap d).tmod 1001 ∧ (IntKind.i64.wrap d).tmod 1001 ≤ 1000 := by
  rw [i64_in d (by omega), Int.tmod_eq_emod_of_nonneg hd.1]
  omega
theorem iscraped_true (cx cy sd w h : Int) (pb po : List Int) (x y u v dp dr : Int) (tn : Bool) (hpt : (0 ≤ dp ∧ dp ≤ 65535) ∧ 0 ≤ dr ∧ dr ≤ 65535) : evFn real tab ((twY fsIr spL).env real tab 8 8) 8 Try.f7 AOut [.agg [.int .i64 cx, .int .i64 cy, .int .i64 sd, .int .i64 w, .int .i64 h, .ro (.int .i64) pb, .ro (.int .i64) po], .agg [.int .i64 x, .int .i64 y], .agg [.int .i64 u, .int .i64 v], .int .u16 dp, .int .u16 dr, .bool tn] some = some (b1 true) := by
  refine (iscraped_text 8 0 AOut cx cy sd w h pb po x y u v dp dr tn some).trans ?_
  cases decide ((pb.length : Int) > 400)
  · cases decide ((po.length : Int) > 400)
    · cases tn
      · exact scraped_true cx cy sd w h pb po x y u v _ _ 0 (per_in hpt.1) (per_in hpt.2) (by omega) some
      · exact scraped_true cx cy sd w h pb po x y u v _ _ 1 (per_in hpt.1) (per_in hpt.2) (by omega) some
    · rfl
  · rfl
noncomputable def iscrapedF : List AVal → Option AOut := fun args => match args with
  | [.agg [.int .i64 cx, .int .i64 cy, .int .i64 sd, .int .i64 w, .int .i64 h, .ro (.int .i64) pb, .ro (.int .i64) po], .agg [.int .i64 x, .int .i64 y], .agg [.int .i64 u, .int .i64 v], .int .u16 dp, .int .u16 dr, .bool tn] => if (0 ≤ dp ∧ dp ≤ 65535) ∧ 0 ≤ dr ∧ dr ≤ 65535 then some (b1 true) else none
  | _ => none
theorem iscraped_ok : FspOk Try.prog 7 (toFsp iscrapedF) := tower_Y fsIr_ok spL_ok ⟨Try.func7, fun _ _ => by kernel_rfl⟩ (toFsp_nat _) fun args out hSm hq => by
  replace hq := toFsp_some hq
  unfold iscrapedF at hq
  split at hq
  · rename_i cx cy sd w h pb po x y u v dp dr tn
    split at hq
    · rename_i hpt
      cases hq
      exact ⟨8, 8, iscraped_true cx cy sd w h pb po x y u v dp dr tn hpt⟩
    · cases hq
  · cases hq
end Go.Proofs.Ytbcjhjidhhecaaa

/- Ways and cells in plain numbers: a place of a way that is in a cell; the way back. -/
namespace Go.Proofs.Ytbcjhjidhhecaaa
open Go.RowKit

theorem cnT_full {T : Nat → Int} {v : Int} : ∀ (n : Nat), cnT T v n = n → ∀ i, i < n → T i = v
  | 0, _, i, hi => by omega
  | n + 1, h, i, hi => by
    have := cnT_in T v n
    simp only [cnT] at h
    by_cases hn : T n = v
    · rw [if_pos hn] at h
      rcases Nat.lt_or_ge i n with h' | h'
      · exact cnT_full n (by omega) i h'
      · have : i = n := by omega
        subst this; exact hn
    · rw [if_neg hn] at h; omega
theorem cnT_lt {T : Nat → Int} {v : Int} {i : Nat} (hi : i < 4) (h : T i ≠ v) : cnT T v 4 < 4 := by
  have := cnT_in T v 4
  by_cases h4 : cnT T v 4 = 4
  · exact absurd (cnT_full 4 h4 i hi) h
  · omega
theorem sgn3_neg {a : Int} : sgn3 a = -1 ↔ a < 0 := by
  unfold sgn3 cmp3
  split
  · simp; omega
  · split <;> simp <;> omega
theorem sgn3_pos {a : Int} : sgn3 a = 1 ↔ 0 < a := by
  unfold sgn3 cmp3
  split
  · simp; omega
  · split <;> simp <;> omega
/-- A place of a way, in a cell: the way touches it. -/
theorem tou_of {x y u v lx ly hx hy s t : Int} (h0 : (u - x) * (t - y) - (v - y) * (s - x) = 0) (hs : mn x u ≤ s ∧ s ≤ mx x u) (ht : mn y v ≤ t ∧ t ≤ mx y v) (hX : lx ≤ s ∧ s ≤ hx) (hY : ly ≤ t ∧ t ≤ hy) : touB x y u v lx ly hx hy = true := by
  simp only [touB, Bool.and_eq_true, decide_eq_true_eq]
  refine ⟨⟨⟨by omega, by omega⟩, by omega, by omega⟩, ?_, ?_⟩
  · -- some corner is not to the right
    have key : ∃ i, i < 4 ∧ 0 ≤ (u - x) * (cY ly hy i - y) - (v - y) * (cX lx hx i - x) := by
      have yy : ∃ Y, (Y = ly ∨ Y = hy) ∧ (u - x) * (t - y) ≤ (u - x) * (Y - y) := by
        rcases Int.le_total 0 (u - x) with h | h
        · exact ⟨hy, .inr rfl, Int.mul_le_mul_of_nonneg_left (by omega) h⟩
        · exact ⟨ly, .inl rfl, Int.mul_le_mul_of_nonpos_left h (by omega)⟩
      have xx : ∃ X, (X = lx ∨ X = hx) ∧ (v - y) * (X - x) ≤ (v - y) * (s - x) := by
        rcases Int.le_total 0 (v - y) with h | h
        · exact ⟨lx, .inl rfl, Int.mul_le_mul_of_nonneg_left (by omega) h⟩
        · exact ⟨hx, .inr rfl, Int.mul_le_mul_of_nonpos_left h (by omega)⟩
      obtain ⟨Y, hY', e1⟩ := yy
      obtain ⟨X, hX', e2⟩ := xx
      rcases hY' with rfl | rfl <;> rcases hX' with rfl | rfl
      · exact ⟨0, by omega, by simp only [cX, cY, List.getD_cons_zero]; omega⟩
      · exact ⟨1, by omega, by simp only [cX, cY, List.getD_cons_zero, List.getD_cons_succ]; omega⟩
      · exact ⟨2, by omega, by simp only [cX, cY, List.getD_cons_zero, List.getD_cons_succ]; omega⟩
      · exact ⟨3, by omega, by simp only [cX, cY, List.getD_cons_zero, List.getD_cons_succ]; omega⟩
    obtain ⟨i, hi, hp⟩ := key
    exact cnT_lt hi fun e => by have := sgn3_neg.1 e; omega
  · have key : ∃ i, i < 4 ∧ (u - x) * (cY ly hy i - y) - (v - y) * (cX lx hx i - x) ≤ 0 := by
      have yy : ∃ Y, (Y = ly ∨ Y = hy) ∧ (u - x) * (Y - y) ≤ (u - x) * (t - y) := by
        rcases Int.le_total 0 (u - x) with h | h
        · exact ⟨ly, .inl rfl, Int.mul_le_mul_of_nonneg_left (by omega) h⟩
        · exact ⟨hy, .inr rfl, Int.mul_le_mul_of_nonpos_left h (by omega)⟩
      have xx : ∃ X, (X = lx ∨ X = hx) ∧ (v - y) * (s - x) ≤ (v - y) * (X - x) := by
        rcases Int.le_total 0 (v - y) with h | h
        · exact ⟨hx, .inr rfl, Int.mul_le_mul_of_nonneg_left (by omega) h⟩
        · exact ⟨lx, .inl rfl, Int.mul_le_mul_of_nonpos_left h (by omega)⟩
      obtain ⟨Y, hY', e1⟩ := yy
      obtain ⟨X, hX', e2⟩ := xx
      rcases hY' with rfl | rfl <;> rcases hX' with rfl | rfl
      · exact ⟨0, by omega, by simp only [cX, cY, List.getD_cons_zero]; omega⟩
      · exact ⟨1, by omega, by simp only [cX, cY, List.getD_cons_zero, List.getD_cons_succ]; omega⟩
      · exact ⟨2, by omega, by simp only [cX, cY, List.getD_cons_zero, List.getD_cons_succ]; omega⟩
      · exact ⟨3, by omega, by simp only [cX, cY, List.getD_cons_zero, List.getD_cons_succ]; omega⟩
    obtain ⟨i, hi, hp⟩ := key
    exact cnT_lt hi fun e => by have := sgn3_pos.1 e; omega
theorem mx_comm (a b : Int) : mx a b = mx b a := by unfold mx; split <;> split <;> omega
theorem mn_comm (a b : Int) : mn a b = mn b a := by unfold mn; split <;> split <;> omega
theorem cnT_flip {S T : Nat → Int} (v : Int) : ∀ n, (∀ i, i < n → (S i = v ↔ T i = -v)) → cnT S v n = cnT T (-v) n
  | 0, _ => rfl
  | n + 1, h => by
    simp only [cnT, cnT_flip v n fun i hi => h i (by omega)]
    have := h n (by omega)
    by_cases hs : S n = v
    · rw [if_pos hs, if_pos (this.1 hs)]
    · rw [if_neg hs, if_neg fun e => hs (this.2 e)]
theorem cross_back (x y u v X Y : Int) : (x - u) * (Y - v) - (y - v) * (X - u) = -((u - x) * (Y - y) - (v - y) * (X - x)) := by
  have e1 : (x - u) * (Y - v) = x * Y - x * v - u * Y + u * v := by rw [Int.sub_mul, Int.mul_sub, Int.mul_sub]; omega
  have e2 : (y - v) * (X - u) = y * X - y * u - v * X + v * u := by rw [Int.sub_mul, Int.mul_sub, Int.mul_sub]; omega
  have e3 : (u - x) * (Y - y) = u * Y - u * y - x * Y + x * y := by rw [Int.sub_mul, Int.mul_sub, Int.mul_sub]; omega
  have e4 : (v - y) * (X - x) = v * X - v * x - y * X + y * x := by rw [Int.sub_mul, Int.mul_sub, Int.mul_sub]; omega
  rw [e1, e2, e3, e4, Int.mul_comm v u, Int.mul_comm y u, Int.mul_comm v x, Int.mul_comm y x]
  omega
theorem tou_back (x y u v lx ly hx hy : Int) : touB u v x y lx ly hx hy = touB x y u v lx ly hx hy := by
  have flip : ∀ w : Int, w = -1 ∨ w = 1 → cnT (sid u v x y lx ly hx hy) w 4 = cnT (sid x y u v lx ly hx hy) (-w) 4 := fun w hw => cnT_flip w 4 fun i _ => by
    unfold sid
    rw [cross_back]
    generalize (u - x) * (cY ly hy i - y) - (v - y) * (cX lx hx i - x) = q
    rcases hw with rfl | rfl
    · rw [sgn3_neg, show -(-1 : Int) = 1 from rfl, sgn3_pos]; omega
    · rw [sgn3_pos, sgn3_neg]; omega
  unfold touB
  rw [flip (-1) (.inl rfl), flip 1 (.inr rfl), mx_comm u x, mn_comm u x, mx_comm v y, mn_comm v y, show -(-1 : Int) = 1 from rfl]
  rw [Bool.and_comm (decide (cnT (sid x y u v lx ly hx hy) 1 4 < 4))]
/-- The cell of a place. -/
theorem cel_parts {cx cy sd w h x y : Int} (hsd : 1 ≤ sd) (hw : 1 ≤ w) (hi : inCel cx cy sd w h x y = true) : celC cx cy sd w x y % w = (x - cx) / sd ∧ celC cx cy sd w x y / w = (y - cy) / sd := by
  obtain ⟨_, _, ⟨a0, a1⟩, b0, b1⟩ := cel_in hsd hw hi
  unfold celC
  generalize (x - cx) / sd = p at *
  generalize (y - cy) / sd = q at *
  constructor
  · rw [Int.add_comm, Int.add_mul_emod_self_right, Int.emod_eq_of_lt a0 a1]
  · rw [Int.add_comm, Int.add_mul_ediv_right _ _ (by omega), Int.ediv_eq_zero_of_lt a0 a1]; omega
theorem to_of_place {cx cy sd w h x y u v s t : Int} (hsd : 1 ≤ sd) (hw : 1 ≤ w) (h0 : (u - x) * (t - y) - (v - y) * (s - x) = 0) (hs : mn x u ≤ s ∧ s ≤ mx x u) (ht : mn y v ≤ t ∧ t ≤ mx y v) (hi : inCel cx cy sd w h s t = true) : toB cx cy sd w x y u v (celC cx cy sd w s t) = true := by
  obtain ⟨e1, e2⟩ := cel_parts hsd hw hi
  unfold toB
  rw [e1, e2]
  have f1 := Int.emod_add_mul_ediv (s - cx) sd
  have f2 := Int.emod_nonneg (s - cx) (show sd ≠ 0 by omega)
  have f3 := Int.emod_lt_of_pos (s - cx) (show 0 < sd by omega)
  have g1 := Int.emod_add_mul_ediv (t - cy) sd
  have g2 := Int.emod_nonneg (t - cy) (show sd ≠ 0 by omega)
  have g3 := Int.emod_lt_of_pos (t - cy) (show 0 < sd by omega)
  rw [Int.mul_comm] at f1 g1
  exact tou_of h0 hs ht ⟨by omega, by omega⟩ ⟨by omega, by omega⟩

/-! Lists of numbers for which something holds. -/
theorem whL_at (hit : Nat → Bool) (n : Nat) {i : Nat} (hi : i < (whL hit n).length) : ∃ m : Nat, (whL hit n).getD i 0 = m ∧ m < n ∧ hit m = true := by
  rw [List.getD_eq_getElem?_getD, List.getElem?_eq_getElem hi]
  have hm := List.getElem_mem hi
  obtain ⟨m, hm', e⟩ := List.mem_map.1 hm
  obtain ⟨h1, h2⟩ := List.mem_filter.1 hm'
  exact ⟨m, by rw [Option.getD_some]; exact e.symm, List.mem_range.1 h1, h2⟩
theorem whL_has {hit : Nat → Bool} {n m : Nat} (hm : m < n) (h : hit m = true) : ∃ i, i < (whL hit n).length ∧ (whL hit n).getD i 0 = (m : Int) := by
  have : (m : Int) ∈ whL hit n := List.mem_map.2 ⟨m, List.mem_filter.2 ⟨List.mem_range.2 hm, h⟩, rfl⟩
  obtain ⟨i, hi, e⟩ := List.mem_iff_getElem.1 this
  exact ⟨i, hi, by rw [List.getD_eq_getElem?_getD, List.getElem?_eq_getElem hi, Option.getD_some, e]⟩
theorem whL_rise (hit : Nat → Bool) (n : Nat) : (whL hit n).Pairwise (· < ·) := by
  unfold whL
  rw [List.pairwise_map]
  refine (List.Pairwise.filter _ List.pairwise_lt_range).imp ?_
  intro a b h; omega
theorem whL_next (hit : Nat → Bool) (n : Nat) {i : Nat} (h0 : 0 < i) (hi : i < (whL hit n).length) : (whL hit n).getD (i - 1) 0 < (whL hit n).getD i 0 := by
  have := List.pairwise_iff_getElem.1 (whL_rise hit n) (i - 1) i (by omega) hi (by omega)
  rw [List.getD_eq_getElem?_getD, List.getD_eq_getElem?_getD, List.getElem?_eq_getElem hi, List.getElem?_eq_getElem (by omega)]
  exact this
end Go.Proofs.Ytbcjhjidhhecaaa

/- IcePlaces: its text, and that it answers true. -/
namespace Go.Proofs.Ytbcjhjidhhecaaa
open Go.RowKit

section
variable {α : Type}
def plT (l : List Int) (wh c : Int) (F : Option α) (z : Bool × Int × Unit) : Option (LRes (Bool × Int × Unit) α) :=
  bif decide (l.getD z.2.1.toNat 0 < 0) then finL F
  else bif decide (l.getD z.2.1.toNat 0 ≥ wh) then finL F
  else bif z.1 then some (LRes.cont (true, IntKind.i64.wrap (z.2.1 + 1), ())) else some (LRes.cont (l.getD z.2.1.toNat 0 == c, IntKind.i64.wrap (z.2.1 + 1), ()))
def plF (l : List Int) (wh c : Int) (F : Option α) : Bool × Int × Unit → Option (LRes (Bool × Int × Unit) α) := fun z =>
  bif decide (z.2.1 < (l.length : Int)) then
    if 0 ≤ z.2.1 ∧ z.2.1 < (l.length : Int) then
      bif decide (z.2.1 > 0) then
        if 0 ≤ IntKind.i64.wrap (z.2.1 - 1) ∧ IntKind.i64.wrap (z.2.1 - 1) < (l.length : Int) then
          bif decide (l.getD z.2.1.toNat 0 ≤ l.getD (IntKind.i64.wrap (z.2.1 - 1)).toNat 0) then finL F else plT l wh c F z
        else none
      else plT l wh c F z
    else none
  else some (LRes.brk 0 (z.1, z.2.1, ()))
def plEnd (N : Nat) (l l2 : List Int) (wh c e : Int) (k : AOut → Option α) : Option α :=
  afterL (iterL N (plF l wh c (k (b1 false))) (e == 7, 0, ())) fun id y => if id = 0 then (bif l == l2 then k (b1 y.1) else k (b1 false)) else none
end
def stp (x u n k : Int) : Int := IntKind.i64.wrap (x + IntKind.i64.wrap (IntKind.i64.wrap ((IntKind.i64.wrap (u - x)).tdiv n) * k))
def stk (n pt : Int) : Int := IntKind.i64.wrap ((IntKind.i64.wrap (n * IntKind.i64.wrap pt)).tdiv 65536)
set_option maxRecDepth 100000 in
theorem iplaces_text (N n0 : Nat) (α : Type) (cx cy sd w h : Int) (pb po : List Int) (x y u v pt : Int) (k : AOut → Option α) : evFn real tab ((twY fsIc spL).env real tab N (n0 + 8)) N Try.f3 α [.agg [.int .i64 cx, .int .i64 cy, .int .i64 sd, .int .i64 w, .int .i64 h, .ro (.int .i64) pb, .ro (.int .i64) po], .agg [.int .i64 x, .int .i64 y], .agg [.int .i64 u, .int .i64 v], .int .u16 pt] k =
    bif decide ((pb.length : Int) > 400) then k (b1 true)
    else bif decide ((po.length : Int) > 400) then k (b1 true)
    else
      bif er2 (twB cx cy sd w h pb po x y u v) != 0 then
        bif er2 (twB cx cy sd w h pb po x y u v) == 2 then
          bif er2 (twB cx cy sd w h pb po u v x y) == 2 then k (b1 (IntKind.i64.wrap (((tcV cx cy sd w h pb po x y u v).length : Int) + ((tcV cx cy sd w h pb po u v x y).length : Int)) == 0)) else k (b1 false)
        else k (b1 false)
      else
        bif er2 (twB cx cy sd w h pb po u v x y) != 0 then
          bif er2 (twB cx cy sd w h pb po x y u v) == 2 then
            bif er2 (twB cx cy sd w h pb po u v x y) == 2 then k (b1 (IntKind.i64.wrap (((tcV cx cy sd w h pb po x y u v).length : Int) + ((tcV cx cy sd w h pb po u v x y).length : Int)) == 0)) else k (b1 false)
          else k (b1 false)
        else
          bif smlB (IntKind.i64.wrap (u - x)) && smlB (IntKind.i64.wrap (v - y)) then
            bif decide (gcdI (IntKind.i64.wrap (u - x)) (IntKind.i64.wrap (v - y)) > 0) then
              if gcdI (IntKind.i64.wrap (u - x)) (IntKind.i64.wrap (v - y)) = 0 then none
              else if gcdI (IntKind.i64.wrap (u - x)) (IntKind.i64.wrap (v - y)) = 0 then none
              else
                plEnd N (tcV cx cy sd w h pb po x y u v) (tcV cx cy sd w h pb po u v x y) (IntKind.i64.wrap (w * h))
                  (atV cx cy sd w h pb po (stp x u (gcdI (IntKind.i64.wrap (u - x)) (IntKind.i64.wrap (v - y))) (stk (gcdI (IntKind.i64.wrap (u - x)) (IntKind.i64.wrap (v - y))) pt)) (stp y v (gcdI (IntKind.i64.wrap (u - x)) (IntKind.i64.wrap (v - y))) (stk (gcdI (IntKind.i64.wrap (u - x)) (IntKind.i64.wrap (v - y))) pt)))
                  (atE cx cy sd w h pb po (stp x u (gcdI (IntKind.i64.wrap (u - x)) (IntKind.i64.wrap (v - y))) (stk (gcdI (IntKind.i64.wrap (u - x)) (IntKind.i64.wrap (v - y))) pt)) (stp y v (gcdI (IntKind.i64.wrap (u - x)) (IntKind.i64.wrap (v - y))) (stk (gcdI (IntKind.i64.wrap (u - x)) (IntKind.i64.wrap (v - y))) pt))) k
            else plEnd N (tcV cx cy sd w h pb po x y u v) (tcV cx cy sd w h pb po u v x y) (IntKind.i64.wrap (w * h)) (atV cx cy sd w h pb po x y) (atE cx cy sd w h pb po x y) k
          else none := by kernel_rfl

/-- What has been found so far. -/
def fndI (l : List Int) (c : Int) (b : Bool) : Nat → Bool
  | 0 => b
  | i + 1 => bif fndI l c b i then true else l.getD i 0 == c
theorem fnd_mono {l : List Int} {c : Int} {b : Bool} {i : Nat} (h : fndI l c b i = true) : ∀ k, fndI l c b (i + k) = true
  | 0 => h
  | k + 1 => by
    show fndI l c b ((i + k) + 1) = true
    simp only [fndI, fnd_mono h k, cond_true]
theorem plEnd_true {α : Type} {hit : Nat → Bool} {n : Nat} {wh c e : Int} (hn : (n : Int) = wh) (hn2 : n ≤ 65536) (hf : e = 7 ∨ ∃ m : Nat, c = m ∧ m < n ∧ hit m = true) (k : AOut → Option α) : plEnd (n + 1) (whL hit n) (whL hit n) wh c e k = k (b1 true) := by
  have hlen := whL_len hit n
  unfold plEnd
  have key := count_loop (f := plF (whL hit n) wh c (k (b1 false))) (K := fun id y => if id = 0 then (bif whL hit n == whL hit n then k (b1 y.1) else k (b1 false)) else none) (fun i : Nat => (fndI (whL hit n) c (e == 7) i, (i : Int), ())) (whL hit n).length (b := 0) (y := (fndI (whL hit n) c (e == 7) (whL hit n).length, ((whL hit n).length : Int), ())) (fun i hi => ?_) ?_ (N := n + 1) (by omega)
  · refine key.trans ?_
    have hfin : fndI (whL hit n) c (e == 7) (whL hit n).length = true := by
      rcases hf with rfl | ⟨m, rfl, hm, hh⟩
      · have : fndI (whL hit n) c ((7 : Int) == 7) 0 = true := rfl
        have := fnd_mono this (whL hit n).length
        rwa [Nat.zero_add] at this
      · obtain ⟨i, hi, hv⟩ := whL_has hm hh
        have h1 : fndI (whL hit n) m (e == 7) (i + 1) = true := by
          simp only [fndI, hv]
          cases fndI (whL hit n) m (e == 7) i <;> simp
        have := fnd_mono h1 ((whL hit n).length - (i + 1))
        rwa [show i + 1 + ((whL hit n).length - (i + 1)) = (whL hit n).length by omega] at this
    rw [hfin]
    simp
  · obtain ⟨m, hv, hm, _⟩ := whL_at hit n hi
    have hT : plT (whL hit n) wh c (k (b1 false)) (fndI (whL hit n) c (e == 7) i, (i : Int), ()) = some (LRes.cont (fndI (whL hit n) c (e == 7) (i + 1), ((i + 1 : Nat) : Int), ())) := by
      unfold plT
      simp only [Int.toNat_natCast]
      rw [decide_eq_false (by rw [hv]; omega), decide_eq_false (by rw [hv]; omega), i64_in _ (by omega)]
      simp only [cond_false, fndI]
      cases fndI (whL hit n) c (e == 7) i <;> rfl
    unfold plF
    simp only
    rw [decide_eq_true (show (i : Int) < ((whL hit n).length : Int) by omega), cond_true, if_pos ⟨by omega, by omega⟩]
    by_cases h0 : i = 0
    · subst h0
      rw [decide_eq_false (by omega), cond_false]; exact hT
    · have hnx := whL_next hit n (by omega) hi
      rw [decide_eq_true (show (i : Int) > 0 by omega), cond_true, i64_in ((i : Int) - 1) (by omega), if_pos ⟨by omega, by omega⟩, Int.toNat_natCast, show ((i : Int) - 1).toNat = i - 1 by omega, decide_eq_false (by omega), cond_false]
      exact hT
  · unfold plF
    simp only
    rw [decide_eq_false (by omega), cond_false]
/-- A place of a way whose numbers are integers. -/
theorem way_place {x y u v n k P Q : Int} (hP : u - x = n * P) (hQ : v - y = n * Q) (k0 : 0 ≤ k) (k1 : k ≤ n) :
    (u - x) * ((y + Q * k) - y) - (v - y) * ((x + P * k) - x) = 0 ∧ (mn x u ≤ x + P * k ∧ x + P * k ≤ mx x u) ∧ mn y v ≤ y + Q * k ∧ y + Q * k ≤ mx y v := by
  have btw : ∀ a b R : Int, b - a = n * R → mn a b ≤ a + R * k ∧ a + R * k ≤ mx a b := fun a b R e => by
    rcases Int.le_total 0 R with h | h
    · have e1 := Int.mul_nonneg h k0
      have e2 : R * k ≤ R * n := Int.mul_le_mul_of_nonneg_left k1 h
      rw [Int.mul_comm R n] at e2
      unfold mn mx; constructor <;> split <;> omega
    · have e1 : R * k ≤ R * 0 := Int.mul_le_mul_of_nonpos_left h k0
      have e2 : R * n ≤ R * k := Int.mul_le_mul_of_nonpos_left h k1
      rw [Int.mul_comm R n] at e2
      unfold mn mx; constructor <;> split <;> omega
  refine ⟨?_, btw x u P hP, btw y v Q hQ⟩
  rw [hP, hQ, show y + Q * k - y = Q * k by omega, show x + P * k - x = P * k by omega]
  have : n * P * (Q * k) = n * Q * (P * k) := by
    rw [Int.mul_assoc, Int.mul_assoc, Int.mul_left_comm P Q k]
  omega
theorem gcd_parts (a b : Int) : ∃ P Q, a = gcdI a b * P ∧ b = gcdI a b * Q := by
  unfold gcdI
  obtain ⟨P, hP⟩ : ((Nat.gcd a.natAbs b.natAbs : Nat) : Int) ∣ a := Int.ofNat_dvd_left.2 (Nat.gcd_dvd_left _ _)
  obtain ⟨Q, hQ⟩ : ((Nat.gcd a.natAbs b.natAbs : Nat) : Int) ∣ b := Int.ofNat_dvd_left.2 (Nat.gcd_dvd_right _ _)
  exact ⟨P, Q, hP, hQ⟩
theorem stp_eq {x u n k P : Int} (hx : -6553600000 ≤ x ∧ x ≤ 6553600000) (hu : -6553600000 ≤ u ∧ u ≤ 6553600000) (h0 : 0 < n) (hP : u - x = n * P) (k0 : 0 ≤ k) (k1 : k ≤ n) : stp x u n k = x + P * k := by
  have e : (u - x).tdiv n = P := by rw [hP]; exact Int.mul_tdiv_cancel_left _ (by omega)
  have a1 : -13107200000 ≤ P * k ∧ P * k ≤ 13107200000 := by
    rcases Int.le_total 0 P with h | h
    · have e1 := Int.mul_nonneg h k0
      have e2 : P * k ≤ P * n := Int.mul_le_mul_of_nonneg_left k1 h
      rw [Int.mul_comm P n] at e2
      omega
    · have e1 : P * k ≤ P * 0 := Int.mul_le_mul_of_nonpos_left h k0
      have e2 : P * n ≤ P * k := Int.mul_le_mul_of_nonpos_left h k1
      rw [Int.mul_comm P n] at e2
      omega
  have a2 : -13107200000 ≤ P ∧ P ≤ 13107200000 := by
    rcases Int.le_total 0 P with h | h
    · have : 1 * P ≤ n * P := Int.mul_le_mul_of_nonneg_right (by omega) h
      omega
    · have : n * P ≤ 1 * P := Int.mul_le_mul_of_nonpos_right (by omega) h
      omega
  unfold stp
  rw [i64_in (u - x) (by omega), e, i64_in P (by omega), i64_in (P * k) (by omega), i64_in _ (by omega)]
theorem twB_back (cx cy sd w h : Int) (pb po : List Int) (x y u v : Int) : twB cx cy sd w h pb po u v x y = twB cx cy sd w h pb po x y u v := by
  unfold twB; rw [Bool.and_comm (plcB u v)]
theorem tcL_back (cx cy sd w h x y u v : Int) : tchL cx cy sd w h u v x y = tchL cx cy sd w h x y u v := by
  unfold tchL
  congr 1
  funext n
  exact tou_back ..
/-- Where a place of the way is in a cell, that is touched. -/
theorem found_of (cx cy sd w h : Int) (pb po : List Int) (x y u v s t : Int) (hb : twB cx cy sd w h pb po x y u v = true) (h0 : (u - x) * (t - y) - (v - y) * (s - x) = 0) (hs : mn x u ≤ s ∧ s ≤ mx x u) (ht : mn y v ≤ t ∧ t ≤ mx y v) :
    atE cx cy sd w h pb po s t = 7 ∨ ∃ m : Nat, atV cx cy sd w h pb po s t = m ∧ m < cels w h ∧ toB cx cy sd w x y u v m = true := by
  simp only [twB, Bool.and_eq_true, plc_iff] at hb
  obtain ⟨hI, hp, hq⟩ := hb
  have g := ice_is _ _ _ _ _ _ _ hI
  have hst : plcB s t = true := by
    rw [plc_iff]
    have a := mx_in hp.1 hq.1
    have b := mx_in hp.2 hq.2
    omega
  unfold atE atV
  rw [hI, hst]
  cases hi : inCel cx cy sd w h s t
  · exact .inl rfl
  · right
    have gs := g.fs; have gw := g.fw
    obtain ⟨l0, l1, _⟩ := cel_in gs.1 gw.1 hi
    obtain ⟨m, hm⟩ := Int.eq_ofNat_of_zero_le l0
    have hc := (cels_le g.fw g.fh).2
    refine ⟨m, hm, by omega, ?_⟩
    rw [← hm]
    exact to_of_place gs.1 gw.1 h0 hs ht hi
theorem places_true (cx cy sd w h : Int) (pb po : List Int) (x y u v pt : Int) (hpt : 0 ≤ pt ∧ pt ≤ 65535) : ∃ N, ∀ α (k : AOut → Option α), evFn real tab ((twY fsIc spL).env real tab N 8) N Try.f3 α [.agg [.int .i64 cx, .int .i64 cy, .int .i64 sd, .int .i64 w, .int .i64 h, .ro (.int .i64) pb, .ro (.int .i64) po], .agg [.int .i64 x, .int .i64 y], .agg [.int .i64 u, .int .i64 v], .int .u16 pt] k = k (b1 true) := by
  refine ⟨cels w h + 1, fun α k => (iplaces_text (cels w h + 1) 0 α cx cy sd w h pb po x y u v pt k).trans ?_⟩
  cases decide ((pb.length : Int) > 400)
  case true => rfl
  cases decide ((po.length : Int) > 400)
  case true => rfl
  simp only [cond_false]
  rw [twB_back cx cy sd w h pb po x y u v]
  cases hb : twB cx cy sd w h pb po x y u v
  · have e : tcV cx cy sd w h pb po x y u v = [] := by unfold tcV; rw [hb]; rfl
    have e' : tcV cx cy sd w h pb po u v x y = [] := by unfold tcV; rw [twB_back, hb]; rfl
    rw [e, e']
    have : (IntKind.i64.wrap ((([] : List Int).length : Int) + (([] : List Int).length : Int)) == 0) = true := by
      rw [i64_in _ (by simp)]; rfl
    rw [this]
    rfl
  · have e : tcV cx cy sd w h pb po x y u v = whL (fun n => toB cx cy sd w x y u v n) (cels w h) := by unfold tcV; rw [hb]; rfl
    have e' : tcV cx cy sd w h pb po u v x y = whL (fun n => toB cx cy sd w x y u v n) (cels w h) := by unfold tcV; rw [twB_back, hb]; exact tcL_back ..
    have hb' := hb
    simp only [twB, Bool.and_eq_true, plc_iff] at hb'
    obtain ⟨hI, hp, hq⟩ := hb'
    have g := ice_is _ _ _ _ _ _ _ hI
    obtain ⟨c1, c2⟩ := cels_le g.fw g.fh
    rw [e, e', i64_in (u - x) (by omega), i64_in (v - y) (by omega), i64_in (w * h) (by omega)]
    have s1 : smlB (u - x) = true := by simp only [smlB, Bool.and_eq_true, decide_eq_true_eq]; omega
    have s2 : smlB (v - y) = true := by simp only [smlB, Bool.and_eq_true, decide_eq_true_eq]; omega
    rw [s1, s2, show er2 true = 0 from rfl, show ((0 : Int) != 0) = false from rfl, Bool.and_self]
    simp only [cond_false, cond_true]
    obtain ⟨P, Q, hP, hQ⟩ := gcd_parts (u - x) (v - y)
    by_cases h0 : gcdI (u - x) (v - y) > 0
    · rw [decide_eq_true h0, cond_true, if_neg (by omega), if_neg (by omega)]
      have hle : gcdI (u - x) (v - y) ≤ 13107200000 := by
        unfold gcdI at h0 ⊢
        rcases Nat.eq_zero_or_pos (u - x).natAbs with z | z
        · rw [z, Nat.gcd_zero_left]; omega
        · have := Nat.gcd_le_left (v - y).natAbs z; omega
      generalize gcdI (u - x) (v - y) = n at *
      have mm := mul_in (a := n) (b := pt) (A := 13107200000) (B := 65535) ⟨by omega, by omega⟩ hpt
      have hk : stk n pt = n * pt / 65536 := by
        unfold stk
        have a1 := Int.ediv_nonneg mm.1 (show (0 : Int) ≤ 65536 by omega)
        have a2 : n * pt / 65536 ≤ n * pt := Int.ediv_le_self _ mm.1
        rw [i64_in pt (by omega), i64_in (n * pt) (by omega), tdiv_pos mm.1, i64_in _ (by omega)]
      have k0 : 0 ≤ stk n pt := by rw [hk]; exact Int.ediv_nonneg mm.1 (by omega)
      have k1 : stk n pt ≤ n := by
        rw [hk]
        refine Int.ediv_le_of_le_mul (by omega) ?_
        exact Int.mul_le_mul_of_nonneg_left (by omega) (by omega)
      obtain ⟨q1, q2, q3⟩ := way_place hP hQ k0 k1
      rw [stp_eq hp.1 hq.1 h0 hP k0 k1, stp_eq hp.2 hq.2 h0 hQ k0 k1]
      exact plEnd_true c2 c1 (found_of cx cy sd w h pb po x y u v _ _ hb q1 q2 q3) k
    · rw [decide_eq_false h0, cond_false]
      refine plEnd_true c2 c1 (found_of cx cy sd w h pb po x y u v _ _ hb (by rw [Int.sub_self, Int.sub_self, Int.mul_zero, Int.mul_zero]; rfl) ?_ ?_) k
      · unfold mn mx; constructor <;> split <;> omega
      · unfold mn mx; constructor <;> split <;> omega
def iplacesF : List AVal → Option AOut
  | [.agg [.int .i64 cx, .int .i64 cy, .int .i64 sd, .int .i64 w, .int .i64 h, .ro (.int .i64) pb, .ro (.int .i64) po], .agg [.int .i64 x, .int .i64 y], .agg [.int .i64 u, .int .i64 v], .int .u16 pt] => if 0 ≤ pt ∧ pt ≤ 65535 then some (b1 true) else none
  | _ => none
theorem iplaces_ok : FspOk Try.prog 3 (toFsp iplacesF) := tower_Y fsIc_ok spL_ok ⟨Try.func3, fun _ _ => by kernel_rfl⟩ (toFsp_nat _) fun args out hSm hq => by
  replace hq := toFsp_some hq
  unfold iplacesF at hq
  split at hq
  · rename_i cx cy sd w h pb po x y u v pt
    split at hq
    · rename_i hpt
      cases hq
      obtain ⟨N, e⟩ := places_true cx cy sd w h pb po x y u v pt hpt
      exact ⟨N, 8, e AOut some⟩
    · cases hq
  · cases hq
end Go.Proofs.Ytbcjhjidhhecaaa

/- IceWorn: its text, and that it answers true. -/
namespace Go.Proofs.Ytbcjhjidhhecaaa
open Go.RowKit

--AT fsIr spL twY
section
variable {α : Type}
def wnHit (L : List Int) (kf : Option α) (z : Int × List Bool × Unit) : Option (LRes (Int × List Bool × Unit) α) :=
  bif decide (z.1 < (L.length : Int)) then
    if 0 ≤ z.1 ∧ z.1 < (L.length : Int) then
      bif decide (L.getD z.1.toNat 0 < 0) then finL kf
      else bif decide (L.getD z.1.toNat 0 ≥ (z.2.1.length : Int)) then finL kf
      else if 0 ≤ L.getD z.1.toNat 0 ∧ L.getD z.1.toNat 0 < (z.2.1.length : Int) then
        some (LRes.cont (IntKind.i64.wrap (z.1 + 1), z.2.1.set (L.getD z.1.toNat 0).toNat true, ()))
      else none
    else none
  else some (LRes.brk 0 (z.1, z.2.1, ()))
def wnE (A B C po : List Int) (by' : Int) (kf : Option α) (i p q : Int) : Option (LRes (Int × Unit) α) :=
  if 0 ≤ i ∧ i < (A.length : Int) then
    bif A.getD i.toNat 0 != p then finL kf
    else if 0 ≤ i ∧ i < (B.length : Int) then
      bif B.getD i.toNat 0 != q then finL kf
      else if 0 ≤ i ∧ i < (C.length : Int) then
        if 0 ≤ i ∧ i < (po.length : Int) then
          bif C.getD i.toNat 0 != wornV (po.getD i.toNat 0) by' then finL kf
          else some (LRes.cont (IntKind.i64.wrap (i + 1), ()))
        else none
      else none
    else none
  else none
def wnAll (A B C pb po : List Int) (we by' : Int) (H : List Bool) (kf : Option α) (z : Int × Unit) : Option (LRes (Int × Unit) α) :=
  bif decide (z.1 < (H.length : Int)) then
    if 0 ≤ z.1 ∧ z.1 < (pb.length : Int) then
      if 0 ≤ z.1 ∧ z.1 < (po.length : Int) then
        if 0 ≤ z.1 ∧ z.1 < (H.length : Int) then
          bif H.getD z.1.toNat false then wnE A B C po by' kf z.1 (wornV (pb.getD z.1.toNat 0) we) (moreV (po.getD z.1.toNat 0) by')
          else wnE A B C po by' kf z.1 (pb.getD z.1.toNat 0) (po.getD z.1.toNat 0)
        else none
      else none
    else none
  else some (LRes.brk 2 (z.1, ()))
def wnT (N : Nat) (L A B C pb po : List Int) (wh we by' : Int) (k : AOut → Option α) : Option α :=
  if 0 ≤ wh ∧ wh ≤ wh ∧ wh * ((1 : Nat) : Int) ≤ (room : Int) then
    afterL (iterL N (wnHit L (k (b1 false))) (0, List.replicate wh.toNat false, ())) fun id z => if id = 0 then
      bif (A.length : Int) != (z.2.1.length : Int) then k (b1 false)
      else bif (B.length : Int) != (z.2.1.length : Int) then k (b1 false)
      else bif (C.length : Int) != (z.2.1.length : Int) then k (b1 false)
      else bif !(BEq.beq (α := List Int) po po) then k (b1 false)
      else bif !(BEq.beq (α := List Int) pb pb) then k (b1 false)
      else bif !(BEq.beq (α := List Int) pb pb) then k (b1 false)
      else afterL (iterL N (wnAll A B C pb po we by' z.2.1 (k (b1 false))) (0, ())) fun id _ => if id = 2 then k (b1 true) else none
    else none
  else none
end
abbrev wnA (cx cy sd w : Int) (x y u v we : Int) (pb : List Int) : List Int := chgL (fun i => toB cx cy sd w x y u v i) (fun i => wornV i we) pb
abbrev wnB (cx cy sd w : Int) (x y u v by' : Int) (po : List Int) : List Int := chgL (fun i => toB cx cy sd w x y u v i) (fun i => moreV i by') po
abbrev wnC (by' : Int) (po : List Int) : List Int := chgL (fun _ => true) (fun i => wornV i by') po
set_option maxRecDepth 100000 in
theorem iworn_text (N n0 : Nat) (α : Type) (cx cy sd w h : Int) (pb po : List Int) (fl ke sw be we : Int) (x y u v st : Int) (k : AOut → Option α) : evFn real tab ((twY fsIr spL).env real tab N (n0 + 8)) N Try.f6 α [.agg [.int .i64 cx, .int .i64 cy, .int .i64 sd, .int .i64 w, .int .i64 h, .ro (.int .i64) pb, .ro (.int .i64) po], .agg [.int .i64 fl, .int .i64 ke, .int .i64 sw, .int .i64 be, .int .i64 we], .agg [.int .i64 x, .int .i64 y], .agg [.int .i64 u, .int .i64 v], .int .u16 st] k =
    bif decide ((pb.length : Int) > 400) then k (b1 true)
    else bif decide ((po.length : Int) > 400) then k (b1 true)
    else bif pasB cx cy sd w h pb po fl ke sw be we x y u v then
      bif twB cx cy sd w h pb po x y u v && grnB ((IntKind.i64.wrap st).tmod 1001) then
        bif iceB cx cy sd w h pb po && grnB ((IntKind.i64.wrap st).tmod 1001) then
          bif er2 (twB cx cy sd w h pb po x y u v) != 0 then k (b1 true)
          else wnT N (tcV cx cy sd w h pb po x y u v) (wnA cx cy sd w x y u v we pb) (wnB cx cy sd w x y u v ((IntKind.i64.wrap st).tmod 1001) po) (wnC ((IntKind.i64.wrap st).tmod 1001) po) pb po (IntKind.i64.wrap (w * h)) we ((IntKind.i64.wrap st).tmod 1001) k
        else bif er2 (twB cx cy sd w h pb po x y u v) != 0 then k (b1 true) else k (b1 true)
      else bif iceB cx cy sd w h pb po && grnB ((IntKind.i64.wrap st).tmod 1001) then bif er2 (twB cx cy sd w h pb po x y u v) != 0 then k (b1 true) else k (b1 true)
        else bif er2 (twB cx cy sd w h pb po x y u v) != 0 then k (b1 true) else k (b1 true)
    else bif twB cx cy sd w h pb po x y u v && grnB ((IntKind.i64.wrap st).tmod 1001) then
        bif iceB cx cy sd w h pb po && grnB ((IntKind.i64.wrap st).tmod 1001) then bif er2 (twB cx cy sd w h pb po x y u v) != 0 then k (b1 true) else k (b1 true)
        else bif er2 (twB cx cy sd w h pb po x y u v) != 0 then k (b1 true) else k (b1 true)
      else bif iceB cx cy sd w h pb po && grnB ((IntKind.i64.wrap st).tmod 1001) then bif er2 (twB cx cy sd w h pb po x y u v) != 0 then k (b1 true) else k (b1 true)
        else bif er2 (twB cx cy sd w h pb po x y u v) != 0 then k (b1 true) else k (b1 true) := by kernel_rfl
/-- The cells of a list, as marks. -/
def hitL (l : List Int) (t : List Bool) : List Bool := l.foldl (fun t c => t.set c.toNat true) t
theorem hit_len : ∀ (l : List Int) (t : List Bool), (hitL l t).length = t.length
  | [], t => rfl
  | c :: l, t => by
    show (hitL l (t.set c.toNat true)).length = t.length
    rw [hit_len l, List.length_set]
theorem hit_get {j : Nat} : ∀ (l : List Int) (t : List Bool), (∀ c ∈ l, 0 ≤ c) → j < t.length → (hitL l t).getD j false = (t.getD j false || decide ((j : Int) ∈ l))
  | [], t, _, _ => by simp [hitL]
  | c :: l, t, h, hj => by
    have hc := h c (List.mem_cons_self ..)
    have ih := hit_get (j := j) l (t.set c.toNat true) (fun c hc => h c (List.mem_cons_of_mem _ hc)) (by rwa [List.length_set])
    show (hitL l (t.set c.toNat true)).getD j false = _
    rw [ih, List.getD_eq_getElem?_getD (l := t.set c.toNat true)]
    by_cases e : c.toNat = j
    · subst e
      rw [List.getElem?_set_self hj, decide_eq_true (show ((c.toNat : Nat) : Int) ∈ c :: l by rw [show ((c.toNat : Nat) : Int) = c by omega]; exact List.mem_cons_self ..)]
      simp
    · rw [List.getElem?_set_ne e, ← List.getD_eq_getElem?_getD]
      congr 1
      rw [decide_eq_decide, List.mem_cons]
      exact ⟨.inr, fun hh => hh.resolve_left (by omega)⟩
theorem hit_wh (hit : Nat → Bool) (n : Nat) {j : Nat} (hj : j < n) : (hitL (whL hit n) (List.replicate n false)).getD j false = hit j := by
  rw [hit_get _ _ (fun c hc => by
    obtain ⟨m, _, rfl⟩ := List.mem_map.1 hc
    omega) (by rwa [List.length_replicate])]
  have : (List.replicate n false).getD j false = false := by
    rw [List.getD_eq_getElem?_getD, List.getElem?_replicate, if_pos hj]; rfl
  rw [this, Bool.false_or]
  cases hh : hit j
  · rw [decide_eq_false_iff_not]
    intro hm
    obtain ⟨m, hf, e⟩ := List.mem_map.1 hm
    have e2 : m = j := by omega
    rw [e2] at hf
    have := (List.mem_filter.1 hf).2
    rw [hh] at this; cases this
  · rw [decide_eq_true_eq]
    exact List.mem_map.2 ⟨j, List.mem_filter.2 ⟨List.mem_range.2 hj, hh⟩, rfl⟩
theorem hit_take {l : List Int} {i : Nat} (hi : i < l.length) (t : List Bool) : hitL (l.take (i + 1)) t = (hitL (l.take i) t).set (l.getD i 0).toNat true := by
  have : l.take (i + 1) = l.take i ++ [l.getD i 0] := by
    rw [List.getD_eq_getElem?_getD, List.getElem?_eq_getElem hi, Option.getD_some, List.take_succ_eq_append_getElem hi]
  unfold hitL
  rw [this, List.foldl_append]
  rfl
theorem wn_true {α : Type} (hit : Nat → Bool) (pb po : List Int) (we by' : Int) {n : Nat} (hp : pb.length = n) (ho : po.length = n) (hn : n ≤ 65536) {N : Nat} (hN : n < N) (k : AOut → Option α) :
    wnT N (whL hit n) (chgL hit (fun i => wornV i we) pb) (chgL hit (fun i => moreV i by') po) (chgL (fun _ => true) (fun i => wornV i by') po) pb po (n : Int) we by' k = k (b1 true) := by
  have hlen := whL_len hit n
  unfold wnT
  rw [if_pos ⟨by omega, by omega, by simp [room]; omega⟩]
  have hs := count_loop (f := wnHit (whL hit n) (k (b1 false))) (K := fun id z => if id = 0 then
      bif ((chgL hit (fun i => wornV i we) pb).length : Int) != (z.2.1.length : Int) then k (b1 false)
      else bif ((chgL hit (fun i => moreV i by') po).length : Int) != (z.2.1.length : Int) then k (b1 false)
      else bif ((chgL (fun _ => true) (fun i => wornV i by') po).length : Int) != (z.2.1.length : Int) then k (b1 false)
      else bif !(BEq.beq (α := List Int) po po) then k (b1 false)
      else bif !(BEq.beq (α := List Int) pb pb) then k (b1 false)
      else bif !(BEq.beq (α := List Int) pb pb) then k (b1 false)
      else afterL (iterL N (wnAll (chgL hit (fun i => wornV i we) pb) (chgL hit (fun i => moreV i by') po) (chgL (fun _ => true) (fun i => wornV i by') po) pb po we by' z.2.1 (k (b1 false))) (0, ())) fun id _ => if id = 2 then k (b1 true) else none
    else none) (fun i : Nat => ((i : Int), hitL ((whL hit n).take i) (List.replicate n false), ())) (whL hit n).length (b := 0) (y := (((whL hit n).length : Int), hitL ((whL hit n).take (whL hit n).length) (List.replicate n false), ())) (fun i hi => ?_) ?_ (N := N) (by omega)
  · refine hs.trans ?_
    rw [if_pos rfl, List.take_length]
    have hl : (hitL (whL hit n) (List.replicate n false)).length = n := by rw [hit_len, List.length_replicate]
    simp only [hl, chg_len, hp, ho]
    rw [show ((n : Int) != (n : Int)) = false by simp]
    simp only [BEq.rfl, Bool.not_true, cond_false]
    refine (count_loop (f := wnAll (chgL hit (fun i => wornV i we) pb) (chgL hit (fun i => moreV i by') po) (chgL (fun _ => true) (fun i => wornV i by') po) pb po we by' (hitL (whL hit n) (List.replicate n false)) (k (b1 false))) (K := fun id _ => if id = 2 then k (b1 true) else none) (fun i : Nat => ((i : Int), ())) n (b := 2) (y := ((n : Int), ())) (fun i hi => ?_) ?_ (N := N) hN).trans (if_pos rfl)
    · have e : ∀ p q, p = (chgL hit (fun i => wornV i we) pb).getD i 0 → q = (chgL hit (fun i => moreV i by') po).getD i 0 → wnE (α := α) (chgL hit (fun i => wornV i we) pb) (chgL hit (fun i => moreV i by') po) (chgL (fun _ => true) (fun i => wornV i by') po) po by' (k (b1 false)) (i : Int) p q = some (LRes.cont (((i + 1 : Nat) : Int), ())) := fun p q e1 e2 => by
        unfold wnE
        rw [Int.toNat_natCast, ← e1, ← e2, chg_get (fun _ => true) (fun i => wornV i by') po (j := i) (by omega)]
        rw [if_pos ⟨by omega, by rw [chg_len]; omega⟩, if_pos ⟨by omega, by rw [chg_len]; omega⟩, if_pos ⟨by omega, by rw [chg_len]; omega⟩, if_pos ⟨by omega, by omega⟩, i64_in ((i : Int) + 1) (by omega)]
        simp
      unfold wnAll
      simp only
      rw [decide_eq_true (show (i : Int) < ((hitL (whL hit n) (List.replicate n false)).length : Int) by omega), cond_true, if_pos ⟨by omega, by omega⟩, if_pos ⟨by omega, by omega⟩, if_pos ⟨by omega, by omega⟩, Int.toNat_natCast, hit_wh hit n hi]
      have g1 := chg_get hit (fun i => wornV i we) pb (j := i) (by omega)
      have g2 := chg_get hit (fun i => moreV i by') po (j := i) (by omega)
      cases hh : hit i
      · rw [hh] at g1 g2
        exact e _ _ g1.symm g2.symm
      · rw [hh] at g1 g2
        exact e _ _ g1.symm g2.symm
    · unfold wnAll
      simp only
      rw [decide_eq_false (show ¬ (n : Int) < ((hitL (whL hit n) (List.replicate n false)).length : Int) by omega)]
      rfl
  · obtain ⟨m, hv, hm, _⟩ := whL_at hit n hi
    have hl : (hitL ((whL hit n).take i) (List.replicate n false)).length = n := by rw [hit_len, List.length_replicate]
    unfold wnHit
    simp only
    rw [decide_eq_true (show (i : Int) < ((whL hit n).length : Int) by omega), cond_true, if_pos ⟨by omega, by omega⟩, Int.toNat_natCast, hit_take hi]
    rw [hv, hl, decide_eq_false (show ¬ (m : Int) < 0 by omega), decide_eq_false (show ¬ (m : Int) ≥ (n : Int) by omega), cond_false, cond_false, if_pos ⟨by omega, by omega⟩, i64_in ((i : Int) + 1) (by omega)]
    rfl
  · unfold wnHit
    simp only
    rw [decide_eq_false (show ¬ ((whL hit n).length : Int) < ((whL hit n).length : Int) by omega)]
    rfl
theorem iworn_true (cx cy sd w h : Int) (pb po : List Int) (fl ke sw be we : Int) (x y u v st : Int) (hst : 0 ≤ st ∧ st ≤ 65535) : evFn real tab ((twY fsIr spL).env real tab 65537 8) 65537 Try.f6 AOut [.agg [.int .i64 cx, .int .i64 cy, .int .i64 sd, .int .i64 w, .int .i64 h, .ro (.int .i64) pb, .ro (.int .i64) po], .agg [.int .i64 fl, .int .i64 ke, .int .i64 sw, .int .i64 be, .int .i64 we], .agg [.int .i64 x, .int .i64 y], .agg [.int .i64 u, .int .i64 v], .int .u16 st] some = some (b1 true) := by
  refine (iworn_text 65537 0 AOut cx cy sd w h pb po fl ke sw be we x y u v st some).trans ?_
  have hb := per_in hst
  have gb : grnB ((IntKind.i64.wrap st).tmod 1001) = true := by simp [grnB]; omega
  rw [gb]
  cases decide ((pb.length : Int) > 400)
  · cases decide ((po.length : Int) > 400)
    · cases hP : pasB cx cy sd w h pb po fl ke sw be we x y u v
      · cases twB cx cy sd w h pb po x y u v <;> cases iceB cx cy sd w h pb po <;> rfl
      · simp only [pasB, Bool.and_eq_true] at hP
        obtain ⟨⟨hI, hG⟩, hp⟩ := hP
        have g := ice_is _ _ _ _ _ _ _ hI
        obtain ⟨c1, c2⟩ := cels_le g.fw g.fh
        have gp := g.pl
        have go := g.ol
        have ht : twB cx cy sd w h pb po x y u v = true := by unfold twB; rw [hI, hp.1, hp.2]; rfl
        have e : tcV cx cy sd w h pb po x y u v = whL (fun n => toB cx cy sd w x y u v n) (cels w h) := by unfold tcV; rw [ht]; rfl
        rw [ht, hI, e, i64_in (w * h) (by omega), ← c2]
        exact wn_true (fun n => toB cx cy sd w x y u v n) pb po we _ (by omega) (by omega) c1 (by omega) some
    · rfl
  · rfl
noncomputable def iwornF : List AVal → Option AOut := fun args => match args with
  | [.agg [.int .i64 cx, .int .i64 cy, .int .i64 sd, .int .i64 w, .int .i64 h, .ro (.int .i64) pb, .ro (.int .i64) po], .agg [.int .i64 fl, .int .i64 ke, .int .i64 sw, .int .i64 be, .int .i64 we], .agg [.int .i64 x, .int .i64 y], .agg [.int .i64 u, .int .i64 v], .int .u16 st] => if 0 ≤ st ∧ st ≤ 65535 then some (b1 true) else none
  | _ => none
theorem iworn_ok : FspOk Try.prog 6 (toFsp iwornF) := tower_Y fsIr_ok spL_ok ⟨Try.func6, fun _ _ => by kernel_rfl⟩ (toFsp_nat _) fun args out hSm hq => by
  replace hq := toFsp_some hq
  unfold iwornF at hq
  split at hq
  · rename_i cx cy sd w h pb po fl ke sw be we x y u v st
    split at hq
    · rename_i hpt
      cases hq
      exact ⟨65537, 8, iworn_true cx cy sd w h pb po fl ke sw be we x y u v st hpt⟩
    · cases hq
  · cases hq
end Go.Proofs.Ytbcjhjidhhecaaa
