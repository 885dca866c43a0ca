/- Parts of the proof, in build order. -/
import Derived.Test.YtleceelemogbcaaM8
import Derived.Test.YtleceelemogbcaaM7
/- By the evaluator: odd; alive, out of its walk; the contracts of SkillChances. -/
namespace Go.Proofs.Ytleceelemogbcaa
open Go.RowKit

def longB (x : List Int) : Bool := decide ((x.length : Int) > 60)
def oddF : List AVal → Option AOut
  | [.ro (.sl (.int .i64)) l] => some (.ret (.bool (List.any (α := List Int) l longB)))
  | _ => none
theorem odd_enter (args : Array Value) (w : World) : (callFunc 12 args).run Try.prog w = .ok (.enter 12 args) w := by kernel_rfl
theorem odd_text (N : Nat) (α : Type) (l : List (List Int)) (k : AOut → Option α) : evFn real tab (envF env0) N Try.f12 α [.ro (.sl (.int .i64)) l] k =
    afterL
      (iterL N
        (fun x : Int × Unit =>
          bif decide (x.1 < (l.length : Int)) then
            if 0 ≤ x.1 ∧ x.1 < (l.length : Int) then
              bif decide (((l.getD x.1.toNat []).length : Int) > 60) then finL (k (AOut.ret (AVal.bool true)))
              else some (LRes.cont (IntKind.i64.wrap (x.1 + 1), ()))
            else none
          else some (LRes.brk 0 (x.1, ())))
        (0, ()))
      fun id _ => if id = 0 then k (AOut.ret (AVal.bool false)) else none := by kernel_rfl

theorem any_rangeL (xs : List (List Int)) (q : List Int → Bool) : ((List.range xs.length).any fun i => q (xs.getD i [])) = xs.any q := by
  rw [Bool.eq_iff_iff, List.any_eq_true, List.any_eq_true]
  constructor
  · rintro ⟨i, hi, h⟩
    have hi := List.mem_range.1 hi
    rw [List.getD_eq_getElem?_getD, List.getElem?_eq_getElem hi] at h
    exact ⟨_, List.getElem_mem hi, h⟩
  · rintro ⟨x, hx, h⟩
    obtain ⟨i, hi, rfl⟩ := List.mem_iff_getElem.1 hx
    exact ⟨i, List.mem_range.2 hi, by rw [List.getD_eq_getElem?_getD, List.getElem?_eq_getElem hi]; exact h⟩

theorem odd_plain {α : Type} (l : List (List Int)) (hl : l.length ≤ maxLen) (k : AOut → Option α) : evFn real tab (envF env0) (l.length + 1) Try.f12 α [.ro (.sl (.int .i64)) l] k = k (.ret (.bool (l.any longB))) := by
  rw [odd_text]
  generalize hf : (fun x : Int × Unit => (_ : Option (LRes (Int × Unit) α))) = f
  have e : iterL (l.length + 1) f (0, ()) = bif (List.range l.length).any (fun i => longB (l.getD i [])) then finL (k (AOut.ret (AVal.bool true))) else some (.brk 0 ((l.length : Int), ())) := by
    refine iterL_any (f := f) (fun i : Nat => ((i : Int), ())) _ (fin_not _) (brk_not _ _) l.length (fun i hi => ?_) ?_
    · rw [← hf]
      have h1 : decide ((i : Int) < (l.length : Int)) = true := decide_eq_true (by omega)
      have h2 : IntKind.i64.wrap ((i : Int) + 1) = ((i + 1 : Nat) : Int) := wrap_small (n := i + 1) (by omega)
      simp only [h1, cond_true, h2]
      rw [if_pos ⟨by omega, by omega⟩]
      rfl
    · rw [← hf]
      have h1 : decide ((l.length : Int) < (l.length : Int)) = false := decide_eq_false (by omega)
      simp only [h1, cond_false]
  rw [e, any_rangeL l longB]
  cases l.any longB
  · rfl
  · simp only [cond_true]
    cases k (.ret (.bool true)) <;> rfl

theorem odd_ok : FspOk Try.prog 12 (toFsp oddF) := fsp_of mixed tabOk env_nil Try.func12 odd_enter fun args out hs hF => by
  unfold oddF at hF
  split at hF
  · rename_i l
    cases hF
    exact ⟨_, odd_plain l (hs _ (by simp)).len some⟩
  · cases hF

def aliveF : List AVal → Option AOut
  | [] => some (.ret (.bool true))
  | _ => none
theorem alive_ok : FspOk Try.prog 7 (toFsp aliveF) where
  enter := fun args w => by kernel_rfl
  nat := toFsp_nat _
  calls := fun args out hout M w cargs hM hl hr => by
    have hF := toFsp_some hout
    unfold aliveF at hF
    split at hF
    · cases hF
      obtain ⟨l⟩ := cargs
      match l, hl with
      | [], _ =>
        refine (alive_c w).mono ?_
        rintro e w' ⟨rfl, hb⟩
        exact cpost_flat hM hb (.bool _)
    · cases hF

theorem fsp_same {P : Program} {f : FuncId} {F G : List AVal → Option AOut} (h : ∀ args out, G args = some out → F args = some out) (hF : FspOk P f (toFsp F)) : FspOk P f (toFsp G) where
  enter := hF.enter
  nat := toFsp_nat _
  calls := fun args out hout => hF.calls args out (by
    have := h args out (toFsp_some hout)
    unfold toFsp
    rw [this])

/-! What the functions give, without cases. -/
def chE (xs ys : List Int) (m : Int) : Int := bif chnB xs ys m then 0 else 2
def chL (xs ys : List Int) (m : Int) : Int := bif chnB xs ys m then lowC xs ys m else 0
def chH (xs ys : List Int) (m : Int) : Int := bif chnB xs ys m then highD xs ys m else 0
def chD (xs ys : List Int) (m : Int) : Int := bif chnB xs ys m then denC xs m else 0
def schnG : List AVal → Option AOut
  | [.ro (.int .i64) xs, .ro (.int .i64) ys, .int .i64 m] => some (schnOut (chL xs ys m) (chD xs ys m) (chH xs ys m) (chD xs ys m) (chE xs ys m))
  | _ => none
def rchnG : List AVal → Option AOut
  | [.ro (.int .i64) xs, .ro (.int .i64) ys, .int .i64 m] => some (rchnOut (chL xs ys m) (chD xs ys m) (chH xs ys m) (chD xs ys m) (chE xs ys m))
  | _ => none
theorem schn_same : ∀ args out, schnG args = some out → schnF args = some out := fun args out h => by
  unfold schnG at h
  split at h
  · rename_i xs ys m
    cases h
    simp only [schnF, chE, chL, chH, chD]
    cases chnB xs ys m <;> rfl
  · cases h

theorem rchn_same : ∀ args out, rchnG args = some out → rchnF args = some out := fun args out h => by
  unfold rchnG at h
  split at h
  · rename_i xs ys m
    cases h
    simp only [rchnF, chE, chL, chH, chD]
    cases chnB xs ys m <;> rfl
  · cases h

def mnE (xs ls : List Int) (m : Int) : Int := bif meanB xs ls m then 0 else 2
def mnLo (xs ls : List Int) (m : Int) : Int := bif meanB xs ls m then rndQ 1 (totL xs ls m) (denC xs m) else 0
def mnHi (xs ls : List Int) (m : Int) : Int := bif meanB xs ls m then rndQ 2 (totH xs ls m) (denC xs m) else 0
def smeanG : List AVal → Option AOut
  | [.ro (.int .i64) xs, .ro (.int .i64) ls, .int .i64 m] => some (smean3 (mnLo xs ls m) (mnHi xs ls m) (mnE xs ls m))
  | _ => none
def rmeanG : List AVal → Option AOut
  | [.ro (.int .i64) xs, .ro (.int .i64) ls, .int .i64 m] => some (rmean3 (mnLo xs ls m) (mnHi xs ls m) (mnE xs ls m))
  | _ => none
theorem smean_same : ∀ args out, smeanG args = some out → smeanF args = some out := fun args out h => by
  unfold smeanG at h
  split at h
  · rename_i xs ls m
    cases h
    simp only [smeanF, mnE, mnLo, mnHi]
    cases meanB xs ls m <;> rfl
  · cases h

theorem rmean_same : ∀ args out, rmeanG args = some out → rmeanF args = some out := fun args out h => by
  unfold rmeanG at h
  split at h
  · rename_i xs ls m
    cases h
    simp only [rmeanF, mnE, mnLo, mnHi]
    cases meanB xs ls m <;> rfl
  · cases h

def gvB (xs ys : List Int) : Bool := cntB xs && evtB ys (List.length (α := Int) xs)
def gvR (xs ys : List Int) : List Int := bif gvB xs ys then givL xs ys else []
def gvE (xs ys : List Int) : Int := bif gvB xs ys then 0 else 2
def givG : List AVal → Option AOut
  | [.ro (.int .i64) xs, .ro (.int .i64) ys] => some (.ret (.tup [.ro (.int .i64) (gvR xs ys), iv (gvE xs ys)]))
  | _ => none
theorem giv_same : ∀ args out, givG args = some out → givF args = some out := fun args out h => by
  unfold givG at h
  split at h
  · rename_i xs ys
    cases h
    simp only [givF, gvR, gvE, gvB]
    cases cntB xs && evtB ys (List.length (α := Int) xs) <;> rfl
  · cases h

def btB (xs ys : List Int) : Bool := bif twoOk xs ys then rbetB xs ys else false
def btE (xs ys : List Int) : Int := bif twoOk xs ys then 0 else 2
def betG : List AVal → Option AOut
  | [.ro (.int .i64) xs, .ro (.int .i64) ys] => some (betOut (btB xs ys) (btE xs ys))
  | _ => none
theorem rbet_same : ∀ args out, betG args = some out → rbetF args = some out := fun args out h => by
  unfold betG at h
  split at h
  · rename_i xs ys
    cases h
    simp only [rbetF, btB, btE]
    cases twoOk xs ys <;> rfl
  · cases h

theorem sbet_same : ∀ args out, betG args = some out → sbetF args = some out := fun args out h => by
  unfold betG at h
  split at h
  · rename_i xs ys
    cases h
    simp only [sbetF, btB, btE]
    cases h2 : twoOk xs ys
    · rfl
    · rw [better_same h2]; rfl
  · cases h

def env13 : FuncId → Option Fsp := fun g => if g = 12 then some (toFsp oddF) else if g = 7 then some (toFsp aliveF) else if g = 22 then some (toFsp sameF)
  else if g = 13 then some (toFsp schnG) else if g = 17 then some (toFsp rchnG) else if g = 14 then some (toFsp smeanG) else if g = 18 then some (toFsp rmeanG)
  else if g = 19 then some (toFsp givG) else if g = 20 then some (toFsp givG) else if g = 16 then some (toFsp betG) else if g = 21 then some (toFsp betG) else env12 g
theorem env13_ok : EnvOk Try.prog (envF env13) := env_cons odd_ok (env_cons alive_ok (env_cons rints_ok (env_cons (fsp_same schn_same schance_ok) (env_cons (fsp_same rchn_same rchance_ok) (env_cons (fsp_same smean_same smean_ok) (env_cons (fsp_same rmean_same rmean_ok) (env_cons (fsp_same giv_same sgiven_ok) (env_cons (fsp_same giv_same rgiven_ok) (env_cons (fsp_same sbet_same sbetter_ok) (env_cons (fsp_same rbet_same rbetter_ok) env12_ok))))))))))
end Go.Proofs.Ytleceelemogbcaa

/- By the evaluator: more, of the law SkillBetween. -/
namespace Go.Proofs.Ytleceelemogbcaa
open Go.RowKit

/-- Where the outcome of throw i is counted. -/
def moreIx (xs os : List Int) (i : Nat) : Nat :=
  bif decide ((os.length : Int) > 0) then ((IntKind.i64.wrap (os.getD ((i : Int).tmod os.length).toNat 0)).tmod xs.length).toNat else 0
def moreSt (xs os : List Int) : Nat → List Int
  | 0 => xs
  | i + 1 => (moreSt xs os i).set (moreIx xs os i) (IntKind.i64.wrap ((moreSt xs os i).getD (moreIx xs os i) 0 + 1))

def moreOk (xs : List Int) (d : Int) (os : List Int) : Prop := (1 ≤ xs.length ∧ xs.length ≤ 49) ∧ (0 ≤ d ∧ d ≤ 1000) ∧ (os.all fun o => decide (0 ≤ o) && decide (o ≤ 255)) = true
instance (xs : List Int) (d : Int) (os : List Int) : Decidable (moreOk xs d os) := by unfold moreOk; exact inferInstance
def moreB (xs : List Int) (d : Int) (os : List Int) : Bool := decide (moreOk xs d os)
def moreF : List AVal → Option AOut
  | [.ro (.int .i64) xs, .int .i64 d, .ro (.int .u8) os] => bif moreB xs d os then some (.ret (.ro (.int .i64) (moreSt xs os d.toNat))) else none
  | _ => none

theorem more_len (xs os : List Int) : ∀ i, (moreSt xs os i).length = xs.length
  | 0 => rfl
  | i + 1 => by simp [moreSt, more_len xs os i]

theorem more_enter (args : Array Value) (w : World) : (callFunc 15 args).run Try.prog w = .ok (.enter 15 args) w := by kernel_rfl
theorem more_text (N : Nat) (α : Type) (xs os : List Int) (d : Int) (k : AOut → Option α) : evFn real tab (envF env0) N Try.f15 α [.ro (.int .i64) xs, .int .i64 d, .ro (.int .u8) os] k =
    if (List.length ([] : List Int) + xs.length) * 8 ≤ room then
      afterL
        (iterL N
          (fun x : Int × List Int × Unit =>
            bif decide (x.1 < d) then
              bif decide ((os.length : Int) > 0) then
                if (os.length : Int) = 0 then none
                else
                  if 0 ≤ x.1.tmod (os.length : Int) ∧ x.1.tmod (os.length : Int) < (os.length : Int) then
                    if (xs.length : Int) = 0 then none
                    else
                      if 0 ≤ (IntKind.i64.wrap (os.getD (x.1.tmod (os.length : Int)).toNat (Int.ofNat 0))).tmod (xs.length : Int) ∧ (IntKind.i64.wrap (os.getD (x.1.tmod (os.length : Int)).toNat (Int.ofNat 0))).tmod (xs.length : Int) < (x.2.1.length : Int) then
                        if 0 ≤ (IntKind.i64.wrap (os.getD (x.1.tmod (os.length : Int)).toNat (Int.ofNat 0))).tmod (xs.length : Int) ∧ (IntKind.i64.wrap (os.getD (x.1.tmod (os.length : Int)).toNat (Int.ofNat 0))).tmod (xs.length : Int) < (x.2.1.length : Int) then
                          some (LRes.cont (IntKind.i64.wrap (x.1 + 1),
                            x.2.1.set ((IntKind.i64.wrap (os.getD (x.1.tmod (os.length : Int)).toNat (Int.ofNat 0))).tmod (xs.length : Int)).toNat (IntKind.i64.wrap (x.2.1.getD ((IntKind.i64.wrap (os.getD (x.1.tmod (os.length : Int)).toNat (Int.ofNat 0))).tmod (xs.length : Int)).toNat (Int.ofNat 0) + 1)), ()))
                        else none
                      else none
                  else none
              else
                if (0 : Int) ≤ 0 ∧ 0 < (x.2.1.length : Int) then
                  if (0 : Int) ≤ 0 ∧ 0 < (x.2.1.length : Int) then
                    some (LRes.cont (IntKind.i64.wrap (x.1 + 1), x.2.1.set (Int.toNat 0) (IntKind.i64.wrap (x.2.1.getD (Int.toNat 0) (Int.ofNat 0) + 1)), ()))
                  else none
                else none
            else some (LRes.brk 0 (x.1, x.2.1, ())))
          (0, xs, ()))
        fun id y => if id = 0 then k (AOut.ret (AVal.ro (Sh.int IntKind.i64) y.2.1)) else none
    else none := by kernel_rfl

theorem tmod_in {a : Int} {n : Nat} (h : 0 ≤ a) (hn : 0 < n) : 0 ≤ a.tmod n ∧ a.tmod n < n := by
  refine ⟨Int.tmod_nonneg _ h, ?_⟩
  have := Int.tmod_lt_of_pos a (show (0 : Int) < n by omega)
  exact this

theorem more_plain {α : Type} (xs os : List Int) (d : Int) (ho : moreOk xs d os) (k : AOut → Option α) : evFn real tab (envF env0) (d.toNat + 1) Try.f15 α [.ro (.int .i64) xs, .int .i64 d, .ro (.int .u8) os] k = k (.ret (.ro (.int .i64) (moreSt xs os d.toNat))) := by
  obtain ⟨h1, h2, h3⟩ := ho
  have hroom : room ≥ 400 := by decide
  have hat : ∀ j, 0 ≤ os.getD j 0 ∧ os.getD j 0 ≤ 255 := fun j => by
    rcases Nat.lt_or_ge j os.length with hj | hj
    · rw [List.getD_eq_getElem?_getD, List.getElem?_eq_getElem hj]
      have := List.all_eq_true.1 h3 _ (List.getElem_mem hj)
      simpa using this
    · rw [List.getD_eq_getElem?_getD, List.getElem?_eq_none hj]; simp
  rw [more_text]
  rw [if_pos (by simp only [List.length_nil]; omega)]
  generalize hf : (fun x : Int × List Int × Unit => (_ : Option (LRes (Int × List Int × Unit) α))) = f
  have e : iterL (d.toNat + 1) f (0, xs, ()) = some (.brk 0 ((d.toNat : Int), moreSt xs os d.toNat, ())) := by
    refine iterL_count (f := f) (fun i : Nat => ((i : Int), moreSt xs os i, ())) (fun y e => by cases e) d.toNat (fun i hi => ?_) ?_ 0 (Nat.zero_le _) _ (by omega)
    · rw [← hf]
      have hd : decide ((i : Int) < d) = true := decide_eq_true (by omega)
      have hw : IntKind.i64.wrap ((i : Int) + 1) = ((i + 1 : Nat) : Int) := wrap_small (n := i + 1) (by have : maxLen = 9223372036854775807 := rfl; omega)
      simp only [hd, cond_true, hw, moreSt, moreIx]
      by_cases hp : (os.length : Int) > 0
      · have a1 := tmod_in (a := (i : Int)) (n := os.length) (by omega) (by omega)
        have a2 := hat (((i : Int).tmod os.length).toNat)
        have a3 : IntKind.i64.wrap (os.getD ((i : Int).tmod os.length).toNat 0) = os.getD ((i : Int).tmod os.length).toNat 0 := i64_w _ (by omega)
        have a4 := tmod_in (a := os.getD ((i : Int).tmod os.length).toNat 0) (n := xs.length) a2.1 (by omega)
        have a5 : 0 ≤ (os.getD ((i : Int).tmod os.length).toNat 0).tmod xs.length ∧ (os.getD ((i : Int).tmod os.length).toNat 0).tmod xs.length < ((moreSt xs os i).length : Int) := by rw [more_len]; exact a4
        simp only [decide_eq_true hp, cond_true, show Int.ofNat 0 = 0 from rfl, a3]
        rw [if_neg (by omega), if_pos a1, if_neg (by omega), if_pos a5, if_pos a5]
      · have a5 : (0 : Int) ≤ 0 ∧ 0 < ((moreSt xs os i).length : Int) := by rw [more_len]; omega
        simp only [decide_eq_false hp, cond_false, show Int.ofNat 0 = 0 from rfl]
        rw [if_pos a5, if_pos a5]
        rfl
    · rw [← hf]
      have hd : decide ((d.toNat : Int) < d) = false := decide_eq_false (by omega)
      simp only [hd, cond_false]
  rw [e]
  rfl

theorem more_of {xs : List Int} {d : Int} {os : List Int} (h : moreB xs d os = true) : moreOk xs d os := of_decide_eq_true h

theorem more_ok : FspOk Try.prog 15 (toFsp moreF) := fsp_of mixed tabOk env_nil Try.func15 more_enter fun args out hs hF => by
  unfold moreF at hF
  split at hF
  · rename_i xs d os
    cases ho : moreB xs d os
    · rw [ho] at hF; cases hF
    · rw [ho] at hF
      cases hF
      exact ⟨_, more_plain xs os d (more_of ho) some⟩
  · cases hF
def moreS : Fsp := fun _ args k =>
  match args with
  | [.ro (.int .i64) xs, .int .i64 d, .ro (.int .u8) os] => bif moreB xs d os then k (.ret (.ro (.int .i64) (moreSt xs os d.toNat))) else none
  | _ => none
theorem moreS_eq : moreS = toFsp moreF := by
  funext α args k
  unfold moreS toFsp moreF
  split
  · rename_i xs d os
    cases moreB xs d os <;> rfl
  · rfl
theorem moreS_ok : FspOk Try.prog 15 moreS := by rw [moreS_eq]; exact more_ok
def env14 : FuncId → Option Fsp := fun g => if g = 15 then some moreS else env13 g
theorem env14_ok : EnvOk Try.prog (envF env14) := env_cons moreS_ok env13_ok
end Go.Proofs.Ytleceelemogbcaa

/- SkillBetween, the plain law: sums over events, and over throws more. -/
namespace Go.Proofs.Ytleceelemogbcaa
open Go.RowKit

/-- The sum over the indices for which something holds. -/
def SP (f : Nat → Int) (p : Nat → Bool) : Nat → Int
  | 0 => 0
  | i + 1 => SP f p i + bif p i then f i else 0
abbrev at0 (l : List Int) : Nat → Int := fun i => l.getD i 0
def isIn (ys : List Int) (i : Nat) : Bool := ys.contains (i : Int)

theorem SP_congr {f g : Nat → Int} {p q : Nat → Bool} : ∀ n, (∀ i, i < n → p i = q i ∧ (p i = true → f i = g i)) → SP f p n = SP g q n
  | 0, _ => rfl
  | n + 1, h => by
    have ih := SP_congr n fun i hi => h i (by omega)
    obtain ⟨h1, h2⟩ := h n (by omega)
    simp only [SP, ih, ← h1]
    cases hp : p n
    · rfl
    · simp only [cond_true, h2 hp]
theorem SP_not (f : Nat → Int) (p : Nat → Bool) : ∀ n, SP f p n + SP f (fun i => !p i) n = SP f (fun _ => true) n
  | 0 => rfl
  | n + 1 => by
    have := SP_not f p n
    simp only [SP]
    cases p n <;> simp <;> omega
theorem SP_none (f : Nat → Int) : ∀ n, SP f (fun _ => false) n = 0
  | 0 => rfl
  | n + 1 => by simp [SP, SP_none f n]
theorem SP_in {f : Nat → Int} {p : Nat → Bool} {B : Int} (h : ∀ i, 0 ≤ f i ∧ f i ≤ B) : ∀ n : Nat, 0 ≤ SP f p n ∧ SP f p n ≤ n * B
  | 0 => by simp [SP]
  | n + 1 => by
    have := SP_in (p := p) h n
    have := h n
    have e : ((n + 1 : Nat) : Int) * B = n * B + B := by rw [Int.natCast_add, Int.add_mul]; simp
    simp only [SP]
    cases p n <;> simp only [cond_true, cond_false] <;> omega
theorem SP_le {f : Nat → Int} {p q : Nat → Bool} (h : ∀ i, 0 ≤ f i) (hpq : ∀ i, p i = true → q i = true) : ∀ n, SP f p n ≤ SP f q n
  | 0 => Int.le_refl _
  | n + 1 => by
    have := SP_le h hpq n
    have := h n
    simp only [SP]
    cases hp : p n
    · cases q n <;> simp <;> omega
    · rw [hpq n hp]; simp; omega

/-- One more at one index. -/
theorem SP_set (l : List Int) (p : Nat → Bool) (j : Nat) (hj : j < l.length) : ∀ n, SP (at0 (l.set j (l.getD j 0 + 1))) p n = SP (at0 l) p n + (if j < n ∧ p j = true then 1 else 0)
  | 0 => by simp [SP]
  | n + 1 => by
    have ih := SP_set l p j hj n
    simp only [SP, ih, at0]
    rcases Nat.lt_trichotomy j n with h | h | h
    · have e : (l.set j (l.getD j 0 + 1)).getD n 0 = l.getD n 0 := by
        rw [List.getD_eq_getElem?_getD, List.getElem?_set_ne (by omega), ← List.getD_eq_getElem?_getD]
      rw [e]
      cases hp : p j
      · simp
      · rw [if_pos ⟨h, rfl⟩, if_pos ⟨by omega, rfl⟩]; cases p n <;> simp <;> omega
    · subst h
      have e : (l.set j (l.getD j 0 + 1)).getD j 0 = l.getD j 0 + 1 := by
        rw [List.getD_eq_getElem?_getD, List.getElem?_set_self hj]; rfl
      rw [e, if_neg (by omega)]
      cases hp : p j
      · simp
      · rw [if_pos ⟨by omega, rfl⟩]; simp; omega
    · have e : (l.set j (l.getD j 0 + 1)).getD n 0 = l.getD n 0 := by
        rw [List.getD_eq_getElem?_getD, List.getElem?_set_ne (by omega), ← List.getD_eq_getElem?_getD]
      rw [e, if_neg (by omega), if_neg (by omega)]
      cases p n <;> simp

/-- How often an index of a kind came among the outcomes. -/
def came (p : Nat → Bool) (xs os : List Int) : Nat → Int
  | 0 => 0
  | i + 1 => came p xs os i + bif p (moreIx xs os i) then 1 else 0
theorem came_in (p : Nat → Bool) (xs os : List Int) : ∀ i : Nat, 0 ≤ came p xs os i ∧ came p xs os i ≤ i
  | 0 => by simp [came]
  | i + 1 => by
    have := came_in p xs os i
    simp only [came]
    cases p (moreIx xs os i) <;> simp <;> omega
theorem came_all (xs os : List Int) : ∀ i : Nat, came (fun _ => true) xs os i = i
  | 0 => rfl
  | i + 1 => by simp [came, came_all xs os i]

/-- The counts with throws more: how great they are, and what they add to sums. -/
structure MoreIs (xs os : List Int) (i : Nat) : Prop where
  low : ∀ j, 0 ≤ (moreSt xs os i).getD j 0 ∧ (moreSt xs os i).getD j 0 ≤ 1000000 + i
  sum : ∀ p, SP (at0 (moreSt xs os i)) p xs.length = SP (at0 xs) p xs.length + came p xs os i

theorem os_at {xs os : List Int} {d : Int} (h : moreOk xs d os) (j : Nat) : 0 ≤ os.getD j 0 ∧ os.getD j 0 ≤ 255 := by
  rcases Nat.lt_or_ge j os.length with hj | hj
  · rw [List.getD_eq_getElem?_getD, List.getElem?_eq_getElem hj]
    have := List.all_eq_true.1 h.2.2 _ (List.getElem_mem hj)
    simpa using this
  · rw [List.getD_eq_getElem?_getD, List.getElem?_eq_none hj]; simp

theorem moreIx_lt {xs os : List Int} {d : Int} (h : moreOk xs d os) (i : Nat) : moreIx xs os i < xs.length := by
  have h1 := h.1
  unfold moreIx
  cases decide ((os.length : Int) > 0)
  · simp only [cond_false]; omega
  · have a2 := os_at h (((i : Int).tmod os.length).toNat)
    have a3 : IntKind.i64.wrap (os.getD ((i : Int).tmod os.length).toNat 0) = os.getD ((i : Int).tmod os.length).toNat 0 := i64_w _ (by omega)
    have a4 := tmod_in (a := os.getD ((i : Int).tmod os.length).toNat 0) (n := xs.length) a2.1 (by omega)
    simp only [cond_true, a3]
    omega

theorem more_is {xs os : List Int} {d : Int} (hc : cntB xs = true) (h : moreOk xs d os) : ∀ i : Nat, i ≤ d.toNat → MoreIs xs os i
  | 0, _ => ⟨fun j => by have := cnt_at hc j; simp only [moreSt]; omega, fun p => by simp [moreSt, came]⟩
  | i + 1, hi => by
    obtain ⟨h1, h2⟩ := more_is hc h i (by omega)
    have hd := h.2.1
    have hx := moreIx_lt h i
    have hl := more_len xs os i
    have hw : IntKind.i64.wrap ((moreSt xs os i).getD (moreIx xs os i) 0 + 1) = (moreSt xs os i).getD (moreIx xs os i) 0 + 1 := i64_w _ (by have := h1 (moreIx xs os i); omega)
    refine ⟨fun j => ?_, fun p => ?_⟩
    · simp only [moreSt, hw]
      by_cases hj : moreIx xs os i = j
      · subst hj
        rw [List.getD_eq_getElem?_getD, List.getElem?_set_self (by omega)]
        have := h1 (moreIx xs os i)
        simp only [Option.getD_some]
        omega
      · rw [List.getD_eq_getElem?_getD, List.getElem?_set_ne hj, ← List.getD_eq_getElem?_getD]
        have := h1 j
        omega
    · simp only [moreSt, hw, came]
      rw [SP_set _ p _ (by omega), h2 p]
      cases hp : p (moreIx xs os i)
      · simp
      · rw [if_pos ⟨hx, rfl⟩]; simp; omega

/-- Products with values, with throws more. -/
theorem SPm_set (l ls : List Int) (j : Nat) (hj : j < l.length) : ∀ n, dotE (l.set j (l.getD j 0 + 1)) ls n = dotE l ls n + (if j < n then ls.getD j 0 else 0)
  | 0 => by simp [dotE]
  | n + 1 => by
    have ih := SPm_set l ls j hj n
    simp only [dotE, ih]
    rcases Nat.lt_trichotomy j n with h | h | h
    · have e : (l.set j (l.getD j 0 + 1)).getD n 0 = l.getD n 0 := by
        rw [List.getD_eq_getElem?_getD, List.getElem?_set_ne (by omega), ← List.getD_eq_getElem?_getD]
      rw [e, if_pos h, if_pos (by omega)]
      omega
    · subst h
      have e : (l.set j (l.getD j 0 + 1)).getD j 0 = l.getD j 0 + 1 := by
        rw [List.getD_eq_getElem?_getD, List.getElem?_set_self hj]; rfl
      rw [e, if_neg (by omega), if_pos (by omega), Int.add_mul]
      omega
    · have e : (l.set j (l.getD j 0 + 1)).getD n 0 = l.getD n 0 := by
        rw [List.getD_eq_getElem?_getD, List.getElem?_set_ne (by omega), ← List.getD_eq_getElem?_getD]
      rw [e, if_neg (by omega), if_neg (by omega)]
      omega

theorem more_dot {xs os ls : List Int} {d a b : Int} (hc : cntB xs = true) (h : moreOk xs d os) (hab : ∀ j, j < xs.length → a ≤ ls.getD j 0 ∧ ls.getD j 0 ≤ b) : ∀ i : Nat, i ≤ d.toNat →
    dotE xs ls xs.length + i * a ≤ dotE (moreSt xs os i) ls xs.length ∧ dotE (moreSt xs os i) ls xs.length ≤ dotE xs ls xs.length + i * b
  | 0, _ => by simp [moreSt]
  | i + 1, hi => by
    have ih := more_dot hc h hab i (by omega)
    obtain ⟨h1, h2⟩ := more_is hc h i (by omega)
    have hd := h.2.1
    have hx := moreIx_lt h i
    have hl := more_len xs os i
    have hw : IntKind.i64.wrap ((moreSt xs os i).getD (moreIx xs os i) 0 + 1) = (moreSt xs os i).getD (moreIx xs os i) 0 + 1 := i64_w _ (by have := h1 (moreIx xs os i); omega)
    simp only [moreSt, hw]
    rw [SPm_set _ ls _ (by omega), if_pos hx]
    have := hab _ hx
    have e : ∀ c : Int, ((i + 1 : Nat) : Int) * c = i * c + c := fun c => by rw [Int.natCast_add, Int.add_mul]; simp
    rw [e a, e b]
    omega

/-- An event: rising, and below a number. -/
def Ev (ys : List Int) (n : Nat) : Prop := ys.Pairwise (· < ·) ∧ ∀ y ∈ ys, 0 ≤ y ∧ y < n

theorem SP_more (f : Nat → Int) (p : Nat → Bool) (m : Nat) : ∀ k, (∀ i, m ≤ i → i < m + k → p i = false) → SP f p (m + k) = SP f p m
  | 0, _ => rfl
  | k + 1, h => by
    have := SP_more f p m k fun i a b => h i a (by omega)
    rw [← Nat.add_assoc]
    simp only [SP, this, h (m + k) (by omega) (by omega)]
    simp

theorem ev_snoc {l : List Int} {y : Int} {n : Nat} (h : Ev (l ++ [y]) n) : Ev l y.toNat ∧ 0 ≤ y ∧ y < n := by
  obtain ⟨h1, h2⟩ := h
  rw [List.pairwise_append] at h1
  have hy := h2 y (by simp)
  refine ⟨⟨h1.1, fun z hz => ?_⟩, hy⟩
  have a := h1.2.2 z hz y (by simp)
  have b := h2 z (by simp [hz])
  omega

def tlF (f : Nat → Int) (ys : List Int) : Int := ys.foldl (fun a y => a + f y.toNat) 0

theorem tlF_snoc (f : Nat → Int) (l : List Int) (y : Int) : tlF f (l ++ [y]) = tlF f l + f y.toNat := by simp [tlF]

theorem list_snoc {P : List Int → Prop} (h0 : P []) (h1 : ∀ l y, P l → P (l ++ [y])) (l : List Int) : P l := by
  rw [← List.reverse_reverse l]
  induction l.reverse with
  | nil => exact h0
  | cons a r ih => rw [List.reverse_cons]; exact h1 _ _ ih

theorem sum_event (f : Nat → Int) (ys : List Int) : ∀ n, Ev ys n → tlF f ys = SP f (isIn ys) n := by
  refine list_snoc (P := fun ys => ∀ n, Ev ys n → tlF f ys = SP f (isIn ys) n) (fun n _ => ?_) (fun l y ih n h => ?_) ys
  · have : isIn [] = fun _ => false := by funext i; simp [isIn]
    rw [this, SP_none]; rfl
  · obtain ⟨h1, h2, h3⟩ := ev_snoc h
    have e1 := ih _ h1
    rw [tlF_snoc, e1]
    have e2 : n = (y.toNat + 1) + (n - (y.toNat + 1)) := by omega
    rw [e2, SP_more f _ _ _ fun i a b => ?_]
    · simp only [SP]
      have : isIn (l ++ [y]) y.toNat = true := by simp [isIn]; omega
      rw [this]
      simp only [cond_true]
      congr 1
      refine SP_congr _ fun i hi => ⟨?_, fun _ => rfl⟩
      have : ¬ ((i : Int) = y) := by omega
      simp [isIn, this]
    · simp only [isIn, List.contains_eq_mem, List.mem_append, List.mem_singleton, decide_eq_false_iff_not]
      rintro (hm | hm)
      · have := (h1.2 _ hm).2; omega
      · omega

theorem ev_of {ys : List Int} {n : Nat} (hn : 1 ≤ n ∧ n ≤ 49) (h : evtB ys n = true) : Ev ys n := by
  unfold evtB at h
  simp only [Bool.not_eq_true', List.any_eq_false] at h
  have hb : ∀ i, i < ys.length → (0 ≤ ys.getD i 0 ∧ ys.getD i 0 < n) ∧ (0 < i → ys.getD (i - 1) 0 < ys.getD i 0) := fun i hi => by
    have := h i (List.mem_range.2 hi)
    unfold evtBad at this
    rw [i64_w _ (by omega)] at this
    simp only [Bool.or_eq_true, Bool.not_eq_true', Bool.and_eq_true, decide_eq_true_eq, not_or] at this
    obtain ⟨a, b⟩ := this
    have a : inB (ys.getD i 0) 0 ((n : Int) - 1) = true := by
      cases hh : inB (ys.getD i 0) 0 ((n : Int) - 1) with
      | true => rfl
      | false => exact absurd hh a
    have a := inB_iff.1 a
    refine ⟨by omega, fun hp => ?_⟩
    have := mt (fun c => ⟨hp, c⟩) b
    omega
  have hchain : ∀ j, j < ys.length → ∀ i, i < j → ys.getD i 0 < ys.getD j 0 := fun j => by
    induction j with
    | zero => intro _ i hi; omega
    | succ j ih =>
      intro hj i hi
      have h1 := (hb (j + 1) hj).2 (by omega)
      simp only [Nat.add_sub_cancel] at h1
      rcases Nat.lt_or_ge i j with hlt | hge
      · have := ih (by omega) i hlt; omega
      · rw [show i = j by omega]; exact h1
  have hg : ∀ i (hi : i < ys.length), ys.getD i 0 = ys[i] := fun i hi => by rw [List.getD_eq_getElem?_getD, List.getElem?_eq_getElem hi]; rfl
  refine ⟨List.pairwise_iff_getElem.2 fun i j hi hj hij => ?_, fun y hy => ?_⟩
  · have := hchain j hj i hij
    rw [hg i hi, hg j hj] at this; exact this
  · obtain ⟨i, hi, rfl⟩ := List.mem_iff_getElem.1 hy
    have := (hb i hi).1
    rw [hg i hi] at this; exact this

theorem of_ev {ys : List Int} {n : Nat} (hn : 1 ≤ n ∧ n ≤ 49) (h : Ev ys n) : evtB ys n = true := by
  obtain ⟨h1, h2⟩ := h
  have hg : ∀ i (hi : i < ys.length), ys.getD i 0 = ys[i] := fun i hi => by rw [List.getD_eq_getElem?_getD, List.getElem?_eq_getElem hi]; rfl
  unfold evtB
  simp only [Bool.not_eq_true', List.any_eq_false]
  intro i hi
  have hi := List.mem_range.1 hi
  have a := h2 _ (List.getElem_mem hi)
  unfold evtBad
  rw [i64_w _ (by omega), hg i hi]
  simp only [Bool.or_eq_true, Bool.not_eq_true', Bool.and_eq_true, decide_eq_true_eq, not_or]
  refine ⟨by rw [inB_iff.2 (by omega)]; simp, fun hp => ?_⟩
  have := List.pairwise_iff_getElem.1 h1 (i - 1) i (by omega) hi (by omega)
  rw [hg (i - 1) (by omega)] at hp
  omega

theorem evS_sum {xs ys : List Int} (hc : cntB xs = true) (h : ys.length ≤ 49) : evS xs ys = tlF (at0 xs) ys := by
  have key : ∀ l : List Int, l.length ≤ 49 → l.foldl (addC xs) 0 = tlF (at0 xs) l ∧ 0 ≤ tlF (at0 xs) l ∧ tlF (at0 xs) l ≤ (l.length : Int) * 1000000 := by
    refine list_snoc (fun _ => by simp [tlF]) fun l y ih hl => ?_
    rw [List.length_append, List.length_singleton] at hl
    obtain ⟨a, b, c⟩ := ih (by omega)
    have h0 := cnt_at hc y.toNat
    have : 0 ≤ at0 xs y.toNat ∧ at0 xs y.toNat ≤ 1000000 := h0
    rw [List.foldl_append, tlF_snoc, a, List.length_append, List.length_singleton]
    simp only [List.foldl_cons, List.foldl_nil, addC]
    refine ⟨i64_w _ (by omega), by omega, by omega⟩
  exact (key ys h).1

theorem ev_cnt {ys : List Int} {n : Nat} (h : Ev ys n) : (ys.length : Int) = SP (fun _ => 1) (isIn ys) n := by
  rw [← sum_event (fun _ => 1) ys n h]
  refine list_snoc (P := fun ys => (ys.length : Int) = tlF (fun _ => 1) ys) rfl (fun l y ih => ?_) ys
  rw [tlF_snoc, ← ih, List.length_append]; simp

theorem SP_full {p : Nat → Bool} : ∀ n : Nat, SP (fun _ => 1) p n = n → ∀ i, i < n → p i = true
  | 0, _, i, hi => by omega
  | n + 1, h, i, hi => by
    have hb := SP_in (f := fun _ => 1) (p := p) (B := 1) (fun _ => by omega) n
    simp only [SP] at h
    cases hp : p n
    · rw [hp] at h; simp at h; omega
    · rw [hp] at h
      rcases Nat.lt_or_ge i n with hlt | hge
      · exact SP_full n (by simp at h; omega) i hlt
      · rw [show i = n by omega]; exact hp
theorem SP_empty {p : Nat → Bool} : ∀ n : Nat, SP (fun _ => 1) p n = 0 → ∀ i, i < n → p i = false
  | 0, _, i, hi => by omega
  | n + 1, h, i, hi => by
    have hb := SP_in (f := fun _ => 1) (p := p) (B := 1) (fun _ => by omega) n
    simp only [SP] at h
    cases hp : p n
    · rw [hp] at h
      rcases Nat.lt_or_ge i n with hlt | hge
      · exact SP_empty n (by simp at h; omega) i hlt
      · rw [show i = n by omega]; exact hp
    · rw [hp] at h; simp at h; omega
theorem SP_one (n : Nat) : SP (fun _ => 1) (fun _ => true) n = n := by
  induction n with
  | zero => rfl
  | succ n ih => simp [SP, ih]

/-- The indices that are not in an event. -/
def others (p : Nat → Bool) : Nat → List Int
  | 0 => []
  | i + 1 => bif p i then others p i else others p i ++ [(i : Int)]
theorem others_ev (p : Nat → Bool) : ∀ n, Ev (others p n) n
  | 0 => ⟨List.Pairwise.nil, fun y hy => by cases hy⟩
  | n + 1 => by
    obtain ⟨h1, h2⟩ := others_ev p n
    simp only [others]
    cases p n
    · simp only [cond_false]
      refine ⟨List.pairwise_append.2 ⟨h1, by simp, fun a ha b hb => ?_⟩, fun y hy => ?_⟩
      · simp at hb; subst hb; exact (h2 a ha).2
      · rcases List.mem_append.1 hy with hy | hy
        · have := h2 y hy; omega
        · simp at hy; omega
    · exact ⟨h1, fun y hy => by have := h2 y hy; omega⟩
theorem others_in (p : Nat → Bool) : ∀ n i, i < n → isIn (others p n) i = !p i
  | 0, i, hi => by omega
  | n + 1, i, hi => by
    have ih := others_in p n
    have hno : ∀ m, m ≥ n → isIn (others p n) m = false := fun m hm => by
      simp only [isIn, List.contains_eq_mem, decide_eq_false_iff_not]
      intro h; have := ((others_ev p n).2 _ h).2; omega
    simp only [others]
    rcases Nat.lt_or_ge i n with hlt | hge
    · cases p n
      · simp only [cond_false]
        rw [← ih i hlt]
        have : ¬ ((i : Int) = (n : Int)) := by omega
        simp [isIn, this]
      · exact ih i hlt
    · have : i = n := by omega
      subst this
      cases hp : p i
      · simp [isIn]
      · simp only [cond_true]; rw [hno i (Nat.le_refl _)]; rfl
end Go.Proofs.Ytleceelemogbcaa
