/- Parts of the proof, in build order. -/
import Derived.Test.YtleceelemogbcaaM8
import Derived.Test.YtleceelemogbcaaM7
/- By the evaluator: odd; alive, out of its walk; the contracts of SkillChances. -/
namespace Go.Proofs.Ytleceelemogbcaa
open Go.RowKit

def longB (x : List Int) : Bool := decide ((x.length : Int) > 60)
def oddF : List AVal → Option AOut
  | [.ro (.sl (.int .i64)) l] => some (.ret (.bool (List.any (α := List Int) l longB)))
  | _ => none
theorem odd_enter (args : Array Value) (w : World) : (callFunc 12 args).run Try.prog w = .ok (.enter 12 args) w := by kernel_rfl
theorem odd_text (N : Nat) (α : Type) (l : List (List Int)) (k : AOut → Option α) : evFn real tab (envF env0) N Try.f12 α [.ro (.sl (.int .i64)) l] k =
    afterL
      (iterL N
        (fun x : Int × Unit =>
          bif decide (x.1 < (l.length : Int)) then
            if 0 ≤ x.1 ∧ x.1 < (l.length : Int) then
              bif decide (((l.getD x.1.toNat []).length : Int) > 60) then finL (k (AOut.ret (AVal.bool true)))
              else some (LRes.cont (IntKind.i64.wrap (x.1 + 1), ()))
            else none
          else some (LRes.brk 0 (x.1, ())))
        (0, ()))
      fun id _ => if id = 0 then k (AOut.ret (AVal.bool false)) else none := by kernel_rfl

theorem any_rangeL (xs : List (List Int)) (q : List Int → Bool) : ((List.range xs.length).any fun i => q (xs.getD i [])) = xs.any q := by
  rw [Bool.eq_iff_iff, List.any_eq_true, List.any_eq_true]
  constructor
  · rintro ⟨i, hi, h⟩
    have hi := List.mem_range.1 hi
    rw [List.getD_eq_getElem?_getD, List.getElem?_eq_getElem hi] at h
    exact ⟨_, List.getElem_mem hi, h⟩
  · rintro ⟨x, hx, h⟩
    obtain ⟨i, hi, rfl⟩ := List.mem_iff_getElem.1 hx
    exact ⟨i, List.mem_range.2 hi, by rw [List.getD_eq_getElem?_getD, List.getElem?_eq_getElem hi]; exact h⟩

theorem odd_plain {α : Type} (l : List (List Int)) (hl : l.length ≤ maxLen) (k : AOut → Option α) : evFn real tab (envF env0) (l.length + 1) Try.f12 α [.ro (.sl (.int .i64)) l] k = k (.ret (.bool (l.any longB))) := by
  rw [odd_text]
  generalize hf : (fun x : Int × Unit => (_ : Option (LRes (Int × Unit) α))) = f
  have e : iterL (l.length + 1) f (0, ()) = bif (List.range l.length).any (fun i => longB (l.getD i [])) then finL (k (AOut.ret (AVal.bool true))) else some (.brk 0 ((l.length : Int), ())) := by
    refine iterL_any (f := f) (fun i : Nat => ((i : Int), ())) _ (fin_not _) (brk_not _ _) l.length (fun i hi => ?_) ?_
    · rw [← hf]
      have h1 : decide ((i : Int) < (l.length : Int)) = true := decide_eq_true (by omega)
      have h2 : IntKind.i64.wrap ((i : Int) + 1) = ((i + 1 : Nat) : Int) := wrap_small (n := i + 1) (by omega)
      simp only [h1, cond_true, h2]
      rw [if_pos ⟨by omega, by omega⟩]
      rfl
    · rw [← hf]
      have h1 : decide ((l.length : Int) < (l.length : Int)) = false := decide_eq_false (by omega)
      simp only [h1, cond_false]
  rw [e, any_rangeL l longB]
  cases l.any longB
  · rfl
  · simp only [cond_true]
    cases k (.ret (.bool true)) <;> rfl

theorem odd_ok : FspOk Try.prog 12 (toFsp oddF) := fsp_of mixed tabOk env_nil Try.func12 odd_enter fun args out hs hF => by
  unfold oddF at hF
  split at hF
  · rename_i l
    cases hF
    exact ⟨_, odd_plain l (hs _ (by simp)).len some⟩
  · cases hF

def aliveF : List AVal → Option AOut
  | [] => some (.ret (.bool true))
  | _ => none
theorem alive_ok : FspOk Try.prog 7 (toFsp aliveF) where
  enter := fun args w => by kernel_rfl
  nat := toFsp_nat _
  calls := fun args out hout M w cargs hM hl hr => by
    have hF := toFsp_some hout
    unfold aliveF at hF
    split at hF
    · cases hF
      obtain ⟨l⟩ := cargs
      match l, hl with
      | [], _ =>
        refine (alive_c w).mono ?_
        rintro e w' ⟨rfl, hb⟩
        exact cpost_flat hM hb (.bool _)
    · cases hF

theorem fsp_same {P : Program} {f : FuncId} {F G : List AVal → Option AOut} (h : ∀ args out, G args = some out → F args = some out) (hF : FspOk P f (toFsp F)) : FspOk P f (toFsp G) where
  enter := hF.enter
  nat := toFsp_nat _
  calls := fun args out hout => hF.calls args out (by
    have := h args out (toFsp_some hout)
    unfold toFsp
    rw [this])

/-! What the functions give, without cases. -/
def chE (xs ys : List Int) (m : Int) : Int := bif chnB xs ys m then 0 else 2
def chL (xs ys : List Int) (m : Int) : Int := bif chnB xs ys m then lowC xs ys m else 0
def chH (xs ys : List Int) (m : Int) : Int := bif chnB xs ys m then highD xs ys m else 0
def chD (xs ys : List Int) (m : Int) : Int := bif chnB xs ys m then denC xs m else 0
def schnG : List AVal → Option AOut
  | [.ro (.int .i64) xs, .ro (.int .i64) ys, .int .i64 m] => some (schnOut (chL xs ys m) (chD xs ys m) (chH xs ys m) (chD xs ys m) (chE xs ys m))
  | _ => none
def rchnG : List AVal → Option AOut
  | [.ro (.int .i64) xs, .ro (.int .i64) ys, .int .i64 m] => some (rchnOut (chL xs ys m) (chD xs ys m) (chH xs ys m) (chD xs ys m) (chE xs ys m))
  | _ => none
theorem schn_same : ∀ args out, schnG args = some out → schnF args = some out := fun args out h => by
  unfold schnG at h
  split at h
  · rename_i xs ys m
    cases h
    simp only [schnF, chE, chL, chH, chD]
    cases chnB xs ys m <;> rfl
  · cases h

theorem rchn_same : ∀ args out, rchnG args = some out → rchnF args = some out := fun args out h => by
  unfold rchnG at h
  split at h
  · rename_i xs ys m
    cases h
    simp only [rchnF, chE, chL, chH, chD]
    cases chnB xs ys m <;> rfl
  · cases h

def mnE (xs ls : List Int) (m : Int) : Int := bif meanB xs ls m then 0 else 2
def mnLo (xs ls : List Int) (m : Int) : Int := bif meanB xs ls m then rndQ 1 (totL xs ls m) (denC xs m) else 0
def mnHi (xs ls : List Int) (m : Int) : Int := bif meanB xs ls m then rndQ 2 (totH xs ls m) (denC xs m) else 0
def smeanG : List AVal → Option AOut
  | [.ro (.int .i64) xs, .ro (.int .i64) ls, .int .i64 m] => some (smean3 (mnLo xs ls m) (mnHi xs ls m) (mnE xs ls m))
  | _ => none
def rmeanG : List AVal → Option AOut
  | [.ro (.int .i64) xs, .ro (.int .i64) ls, .int .i64 m] => some (rmean3 (mnLo xs ls m) (mnHi xs ls m) (mnE xs ls m))
  | _ => none
theorem smean_same : ∀ args out, smeanG args = some out → smeanF args = some out := fun args out h => by
  unfold smeanG at h
  split at h
  · rename_i xs ls m
    cases h
    simp only [smeanF, mnE, mnLo, mnHi]
    cases meanB xs ls m <;> rfl
  · cases h

theorem rmean_same : ∀ args out, rmeanG args = some out → rmeanF args = some out := fun args out h => by
  unfold rmeanG at h
  split at h
  · rename_i xs ls m
    cases h
    simp only [rmeanF, mnE, mnLo, mnHi]
    cases meanB xs ls m <;> rfl
  · cases h

def gvB (xs ys : List Int) : Bool := cntB xs && evtB ys (List.length (α := Int) xs)
def gvR (xs ys : List Int) : List Int := bif gvB xs ys then givL xs ys else []
def gvE (xs ys : List Int) : Int := bif gvB xs ys then 0 else 2
def givG : List AVal → Option AOut
  | [.ro (.int .i64) xs, .ro (.int .i64) ys] => some (.ret (.tup [.ro (.int .i64) (gvR xs ys), iv (gvE xs ys)]))
  | _ => none
theorem giv_same : ∀ args out, givG args = some out → givF args = some out := fun args out h => by
  unfold givG at h
  split at h
  · rename_i xs ys
    cases h
    simp only [givF, gvR, gvE, gvB]
    cases cntB xs && evtB ys (List.length (α := Int) xs) <;> rfl
  · cases h

def btB (xs ys : List Int) : Bool := bif twoOk xs ys then rbetB xs ys else false
def btE (xs ys : List Int) : Int := bif twoOk xs ys then 0 else 2
def betG : List AVal → Option AOut
  | [.ro (.int .i64) xs, .ro (.int .i64) ys] => some (betOut (btB xs ys) (btE xs ys))
  | _ => none
theorem rbet_same : ∀ args out, betG args = some out → rbetF args = some out := fun args out h => by
  unfold betG at h
  split at h
  · rename_i xs ys
    cases h
    simp only [rbetF, btB, btE]
    cases twoOk xs ys <;> rfl
  · cases h

theorem sbet_same : ∀ args out, betG args = some out → sbetF args = some out := fun args out h => by
  unfold betG at h
  split at h
  · rename_i xs ys
    cases h
    simp only [sbetF, btB, btE]
    cases h2 : twoOk xs ys
    · rfl
    · rw [better_same h2]; rfl
  · cases h

def env13 : FuncId → Option Fsp := fun g => if g = 12 then some (toFsp oddF) else if g = 7 then some (toFsp aliveF) else if g = 22 then some (toFsp sameF)
  else if g = 13 then some (toFsp schnG) else if g = 17 then some (toFsp rchnG) else if g = 14 then some (toFsp smeanG) else if g = 18 then some (toFsp rmeanG)
  else if g = 19 then some (toFsp givG) else if g = 20 then some (toFsp givG) else if g = 16 then some (toFsp betG) else if g = 21 then some (toFsp betG) else env12 g
theorem env13_ok : EnvOk Try.prog (envF env13) := env_cons odd_ok (env_cons alive_ok (env_cons rints_ok (env_cons (fsp_same schn_same schance_ok) (env_cons (fsp_same rchn_same rchance_ok) (env_cons (fsp_same smean_same smean_ok) (env_cons (fsp_same rmean_same rmean_ok) (env_cons (fsp_same giv_same sgiven_ok) (env_cons (fsp_same giv_same rgiven_ok) (env_cons (fsp_same sbet_same sbetter_ok) (env_cons (fsp_same rbet_same rbetter_ok) env12_ok))))))))))
end Go.Proofs.Ytleceelemogbcaa
