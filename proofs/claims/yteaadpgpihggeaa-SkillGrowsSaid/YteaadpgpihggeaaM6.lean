/- Parts of the proof, in build order. -/
import Derived.Test.YteaadpgpihggeaaM5
import Derived.Test.YteaadpgpihggeaaProg
import Derived.WalkKit
import Derived.WalkSpells
import Derived.WalkLawsBesides
import Derived.Defers
import Derived.Recover
import Derived.Below
import Derived.Lib.Mul64
import Derived.Lib.BitFns
import Derived.Lib.Strings
import Derived.Lib.Slices
import Derived.Lib.Small
import Derived.Lib.Walk
import Derived.Laws.Bits64b
import Derived.Laws.Externs
import Derived.Deep.QuietTactic
import Derived.BigQuiet
import Derived.Outline
import Derived.LoopTactic
import Derived.Laws.BitsAllLaws
import Derived.Deep.DeepCutAuto
import Derived.Deep.CutBlock
import Derived.Deep.CutRange
import Derived.Deep.LoopGhost
import Derived.Deep.RegionHeld3
import Derived.StillTailTactics
import Derived.RegionTactic
import Derived.ChangeAlike
import Derived.Shelf.Abstract
namespace Go.Proofs.Yteaadpgpihggeaa
open Go.RowKit
theorem swithin_enter (args : Array Value) (w : World) : (callFunc 16 args).run Try.prog w = .ok (.enter 16 args) w := by kernel_rfl
theorem swithin_text (N : Nat) (α : Type) (n lo hi : Int) (k : AOut → Option α) : evFn real tab (envF env0) N Try.f16 α [.int .i64 n, .int .i64 lo, .int .i64 hi] k =
 bif decide (lo ≤ n) then k (AOut.ret (AVal.bool (decide (n ≤ hi)))) else k (AOut.ret (AVal.bool false)) := by kernel_rfl
theorem swithin_ok : FspOk Try.prog 16 (toFsp inF) := fsp_of mixed tabOk env_nil Try.func16 swithin_enter fun args out hs hF => by
  unfold inF at hF
  split at hF
  · rename_i n lo hi
    cases hF
    refine ⟨1, (swithin_text 1 AOut n lo hi some).trans ?_⟩
    unfold inB
    cases decide (lo ≤ n) <;> rfl
  · cases hF
def env3 : FuncId → Option Fsp := fun g =>
  if g = 16 then some (toFsp inF) else
  env2 g
theorem env3_ok : EnvOk Try.prog (envF env3) :=
  env_cons swithin_ok <|
  env2_ok
def offB (n : Int) : Bool := !(inB n 0 1000000)
def offF : List AVal → Option AOut
  | [.int .i64 n] => some (.ret (.bool (offB n)))
  | _ => none
theorem soff_enter (args : Array Value) (w : World) : (callFunc 27 args).run Try.prog w = .ok (.enter 27 args) w := by kernel_rfl
theorem soff_text (N : Nat) (α : Type) (n : Int) (k : AOut → Option α) : evFn real tab (envF env3) N Try.f27 α [.int .i64 n] k = k (AOut.ret (AVal.bool (offB n))) := by kernel_rfl
theorem soff_ok : FspOk Try.prog 27 (toFsp offF) := fsp_of mixed tabOk env3_ok Try.func27 soff_enter fun args out hs hF => by
  unfold offF at hF
  split at hF
  · cases hF
    exact ⟨1, soff_text 1 AOut _ some⟩
  · cases hF
def env4 : FuncId → Option Fsp := fun g =>
  if g = 27 then some (toFsp offF) else
  env3 g
theorem env4_ok : EnvOk Try.prog (envF env4) :=
  env_cons soff_ok <|
  env3_ok
def idxF : List AVal → Option AOut
  | [.ro (.int .i64) xs, .fn g []] => if g = 27 then some (.ret (.int .i64 (fstI offB xs))) else none
  | _ => none
theorem sindex_enter (args : Array Value) (w : World) : (callFunc 35 args).run Try.prog w = .ok (.enter 35 args) w := by kernel_rfl
theorem sindex_text (N : Nat) (α : Type) (xs : List Int) (k : AOut → Option α) : evFn real tab (envF env4) N Try.f35 α [.ro (.int .i64) xs, .fn 27 []] k =
 afterL (iterL N (fun x : Int × Unit => bif decide (x.1 < (xs.length : Int)) then if 0 ≤ x.1 ∧ x.1 < (xs.length : Int) then bif offB (xs.getD x.1.toNat (Int.ofNat 0)) then finL (k
 (AOut.ret (AVal.int IntKind.i64 x.1))) else some (LRes.cont (IntKind.i64.wrap (x.1 + 1), ())) else none else some (LRes.brk 0 (x.1, ()))) (0, ())) fun id _ => if id = 0 then k
 (AOut.ret (AVal.int IntKind.i64 (-1))) else none := by kernel_rfl
theorem sindex_plain {α : Type} (xs : List Int) (hl : xs.length ≤ maxLen) (k : AOut → Option α) :
    (afterL
      (iterL (xs.length + 1)
        (fun x : Int × Unit =>
          bif decide (x.1 < (xs.length : Int)) then
            if 0 ≤ x.1 ∧ x.1 < (xs.length : Int) then
              bif offB (xs.getD x.1.toNat (Int.ofNat 0)) then finL (k (AOut.ret (AVal.int IntKind.i64 x.1)))
              else some (LRes.cont (IntKind.i64.wrap (x.1 + 1), ()))
            else none
          else some (LRes.brk 0 (x.1, ())))
        (0, ()))
      fun id _ => if id = 0 then k (AOut.ret (AVal.int IntKind.i64 (-1))) else none) = k (.ret (.int .i64 (fstI offB xs))) := by
  generalize hf : (fun x : Int × Unit => (_ : Option (LRes (Int × Unit) α))) = f
  have e : iterL (xs.length + 1) f (0, ()) = match (List.range xs.length).find? (fun i => offB (xs.getD i 0)) with | some i => finL (k (AOut.ret (AVal.int .i64 (i : Int)))) | none => some (.brk 0 ((xs.length : Int), ())) := by
    refine iterL_find (f := f) (fun i : Nat => ((i : Int), ())) _ (fun i => fin_not _) (brk_not _ _) xs.length (fun i hi => ?_) ?_
    · rw [← hf]
      have h1 : decide ((i : Int) < (xs.length : Int)) = true := decide_eq_true (by omega)
      simp only [h1, cond_true]
      rw [if_pos ⟨by omega, by omega⟩]
      have h2 : IntKind.i64.wrap ((i : Int) + 1) = ((i + 1 : Nat) : Int) := wrap_small (n := i + 1) (by omega)
      rw [h2]
      rfl
    · rw [← hf]
      have h1 : decide ((xs.length : Int) < (xs.length : Int)) = false := decide_eq_false (by omega)
      simp only [h1, cond_false]
  rw [e]
  unfold fstI
  cases (List.range xs.length).find? fun i => offB (xs.getD i 0) with
  | none => rfl
  | some i =>
    simp only
    cases k (AOut.ret (AVal.int .i64 (i : Int))) <;> rfl
theorem sindex_ok : FspOk Try.prog 35 (toFsp idxF) := fsp_of mixed tabOk env4_ok Try.func35 sindex_enter fun args out hs hF => by
  unfold idxF at hF
  split at hF
  · rename_i xs g
    split at hF
    · rename_i hg
      subst hg
      cases hF
      exact ⟨_, (sindex_text _ AOut xs some).trans (sindex_plain xs (hs _ (by simp)).len some)⟩
    · cases hF
  · cases hF
def env5 : FuncId → Option Fsp := fun g =>
  if g = 35 then some (toFsp idxF) else
  env4 g
theorem env5_ok : EnvOk Try.prog (envF env5) :=
  env_cons sindex_ok <|
  env4_ok
def anyF : List AVal → Option AOut
  | [.ro (.int .i64) xs, .fn g []] => if g = 27 then some (.ret (.bool (List.any (α := Int) xs offB))) else none
  | _ => none
theorem scontains_enter (args : Array Value) (w : World) : (callFunc 26 args).run Try.prog w = .ok (.enter 26 args) w := by kernel_rfl
theorem scontains_text (N : Nat) (α : Type) (xs : List Int) (k : AOut → Option α) : evFn real tab (envF env5) N Try.f26 α [.ro (.int .i64) xs, .fn 27 []] k = k (AOut.ret (AVal.bool (decide (fstI offB xs ≥ 0)))) := by kernel_rfl
theorem scontains_ok : FspOk Try.prog 26 (toFsp anyF) := fsp_of mixed tabOk env5_ok Try.func26 scontains_enter fun args out hs hF => by
  unfold anyF at hF
  split at hF
  · rename_i xs g
    split at hF
    · rename_i hg
      subst hg
      cases hF
      exact ⟨1, (scontains_text 1 AOut xs some).trans (congrArg (fun b => some (AOut.ret (AVal.bool b))) (fst_any offB xs))⟩
    · cases hF
  · cases hF
def env6 : FuncId → Option Fsp := fun g =>
  if g = 26 then some (toFsp anyF) else
  env5 g
theorem env6_ok : EnvOk Try.prog (envF env6) :=
  env_cons scontains_ok <|
  env5_ok
theorem scounted_enter (args : Array Value) (w : World) : (callFunc 12 args).run Try.prog w = .ok (.enter 12 args) w := by kernel_rfl
theorem scounted_text (N : Nat) (α : Type) (xs : List Int) (k : AOut → Option α) : evFn real tab (envF env6) N Try.f12 α [.ro (.int .i64) xs] k =
 bif inB xs.length 1 49 then k (AOut.ret (AVal.bool (!(xs.any offB)))) else k (AOut.ret (AVal.bool false)) := by kernel_rfl
theorem scounted_ok : FspOk Try.prog 12 (toFsp cntF) := fsp_of mixed tabOk env6_ok Try.func12 scounted_enter fun args out hs hF => by
  unfold cntF at hF
  split at hF
  · rename_i xs
    cases hF
    refine ⟨1, (scounted_text 1 AOut xs some).trans ?_⟩
    unfold cntB
    have : (List.any (α := Int) xs fun n => !(inB n 0 1000000)) = List.any (α := Int) xs offB := rfl
    rw [this]
    cases inB (List.length (α := Int) xs) 1 49 <;> simp
  · cases hF
end Go.Proofs.Yteaadpgpihggeaa

namespace Go.Proofs.Yteaadpgpihggeaa
open Go.RowKit
def evtBad (xs : List Int) (m : Int) (i : Nat) : Bool := !(inB (xs.getD i 0) 0 (IntKind.i64.wrap (m - 1))) || (decide (0 < i) && decide (xs.getD i 0 ≤ xs.getD (i - 1) 0))
def evtB (xs : List Int) (m : Int) : Bool := !((List.range xs.length).any (evtBad xs m))
def evtF : List AVal → Option AOut
  | [.ro (.int .i64) xs, .int .i64 m] => some (.ret (.bool (evtB xs m)))
  | _ => none
theorem evt_loop {α : Type} (xs : List Int) (m : Int) (hl : xs.length ≤ maxLen) (k : AOut → Option α) (f : Int × Unit → Option (LRes (Int × Unit) α))
    (h : ∀ i, i < xs.length → f ((i : Int), ()) = bif evtBad xs m i then finL (k (AOut.ret (AVal.bool false))) else some (.cont (((i + 1 : Nat) : Int), ()))) (hend : f ((xs.length : Int), ()) = some (.brk 0 ((xs.length : Int), ()))) :
    (afterL (iterL (xs.length + 1) f (0, ())) fun id _ => if id = 0 then k (AOut.ret (AVal.bool true)) else none) = k (.ret (.bool (evtB xs m))) := by
  have e : iterL (xs.length + 1) f (0, ()) = bif (List.range xs.length).any (evtBad xs m) then finL (k (AOut.ret (AVal.bool false))) else some (.brk 0 ((xs.length : Int), ())) :=
    iterL_any (f := f) (fun i : Nat => ((i : Int), ())) _ (fin_not _) (brk_not _ _) xs.length h hend
  rw [e]
  unfold evtB
  cases (List.range xs.length).any (evtBad xs m)
  · rfl
  · simp only [cond_true, Bool.not_true]
    cases k (.ret (.bool false)) <;> rfl
theorem wrap_pred {i : Nat} (h : i ≤ maxLen) : IntKind.i64.wrap (((i + 1 : Nat) : Int) - 1) = (i : Int) := by
  rw [show ((i + 1 : Nat) : Int) - 1 = (i : Int) by omega]
  exact wrap_small h
theorem sevent_enter (args : Array Value) (w : World) : (callFunc 20 args).run Try.prog w = .ok (.enter 20 args) w := by kernel_rfl
theorem sevent_text (N : Nat) (α : Type) (xs : List Int) (m : Int) (k : AOut → Option α) : evFn real tab (envF env3) N Try.f20 α [.ro (.int .i64) xs, .int .i64 m] k =
 afterL (iterL N (fun x : Int × Unit => bif decide (x.1 < (xs.length : Int)) then if 0 ≤ x.1 ∧ x.1 < (xs.length : Int) then bif !inB (xs.getD x.1.toNat (Int.ofNat 0)) 0
 (IntKind.i64.wrap (m - 1)) then finL (k (AOut.ret (AVal.bool false))) else bif decide (x.1 > 0) then if 0 ≤ IntKind.i64.wrap (x.1 - 1) ∧ IntKind.i64.wrap (x.1 - 1) < (xs.length :
 Int) then bif decide (xs.getD x.1.toNat (Int.ofNat 0) ≤ xs.getD (IntKind.i64.wrap (x.1 - 1)).toNat (Int.ofNat 0)) then finL (k (AOut.ret (AVal.bool false))) else some (LRes.cont
 (IntKind.i64.wrap (x.1 + 1), ())) else none else some (LRes.cont (IntKind.i64.wrap (x.1 + 1), ())) else none else some (LRes.brk 0 (x.1, ()))) (0, ())) fun id _ => if id = 0 then k
 (AOut.ret (AVal.bool true)) else none := by kernel_rfl
theorem sevent_plain {α : Type} (xs : List Int) (m : Int) (hl : xs.length ≤ maxLen) (k : AOut → Option α) :
    evFn real tab (envF env3) (xs.length + 1) Try.f20 α [.ro (.int .i64) xs, .int .i64 m] k = k (.ret (.bool (evtB xs m))) := by
  rw [sevent_text]
  refine evt_loop xs m hl k _ (fun i hi => ?_) ?_
  · have h1 : decide ((i : Int) < (xs.length : Int)) = true := decide_eq_true (by omega)
    have h2 : IntKind.i64.wrap ((i : Int) + 1) = ((i + 1 : Nat) : Int) := wrap_small (n := i + 1) (by omega)
    simp only [h1, cond_true]
    rw [if_pos ⟨by omega, by omega⟩, h2]
    unfold evtBad
    rw [show ((i : Int)).toNat = i from rfl, show Int.ofNat 0 = 0 from rfl]
    cases inB (xs.getD i 0) 0 (IntKind.i64.wrap (m - 1))
    · rfl
    · cases i with
      | zero => rfl
      | succ i =>
        have h3 : decide (((i + 1 : Nat) : Int) > 0) = true := decide_eq_true (by omega)
        simp only [h3, wrap_pred (i := i) (by omega), Bool.not_true, cond_false, cond_true]
        rw [if_pos ⟨by omega, by omega⟩]
        simp only [Int.toNat_natCast, Nat.add_sub_cancel, Bool.false_or]
        have h4 : decide (0 < i + 1) = true := decide_eq_true (by omega)
        rw [h4, Bool.true_and]
  · have h1 : decide ((xs.length : Int) < (xs.length : Int)) = false := decide_eq_false (by omega)
    simp only [h1, cond_false]
theorem sevent_ok : FspOk Try.prog 20 (toFsp evtF) := fsp_of mixed tabOk env3_ok Try.func20 sevent_enter fun args out hs hF => by
  unfold evtF at hF
  split at hF
  · rename_i xs m
    cases hF
    exact ⟨_, sevent_plain xs m (hs _ (by simp)).len some⟩
  · cases hF
theorem ssum_text (N : Nat) (α : Type) (xs : List Int) (k : AOut → Option α) : evFn real tab (envF env0) N Try.f21 α [.ro (.int .i64) xs] k =
 afterL (iterL N (fun x : Int × Int × Unit => bif decide (x.2.1 < (xs.length : Int)) then if 0 ≤ x.2.1 ∧ x.2.1 < (xs.length : Int) then some (LRes.cont (IntKind.i64.wrap (x.1 +
 xs.getD x.2.1.toNat (Int.ofNat 0)), IntKind.i64.wrap (x.2.1 + 1), ())) else none else some (LRes.brk 0 (x.1, x.2.1, ()))) (0, 0, ())) fun id y => if id = 0 then k (AOut.ret
 (AVal.int IntKind.i64 y.1)) else none := by kernel_rfl
theorem ssum_enter (args : Array Value) (w : World) : (callFunc 21 args).run Try.prog w = .ok (.enter 21 args) w := by kernel_rfl
theorem ssum_ok : FspOk Try.prog 21 (toFsp sumF) := fsp_of mixed tabOk env_nil Try.func21 ssum_enter fun args out hs hF => by
  unfold sumF at hF
  split at hF
  · rename_i xs
    cases hF
    exact ⟨_, (ssum_text _ AOut xs some).trans (sum_plain xs (hs _ (by simp)).len some)⟩
  · cases hF
def env7 : FuncId → Option Fsp := fun g =>
  if g = 12 then some (toFsp cntF) else
  if g = 20 then some (toFsp evtF) else
  if g = 21 then some (toFsp sumF) else
  env6 g
theorem env7_ok : EnvOk Try.prog (envF env7) :=
  env_cons scounted_ok <|
  env_cons sevent_ok <|
  env_cons ssum_ok <|
  env6_ok
end Go.Proofs.Yteaadpgpihggeaa

namespace Go.Proofs.Yteaadpgpihggeaa
open Go.RowKit
def putC (xs l : List Int) (y : Int) : List Int := l.set y.toNat (xs.getD y.toNat 0)
def givL (xs ys : List Int) : List Int := ys.foldl (putC xs) (List.replicate xs.length 0)
def givF : List AVal → Option AOut
  | [.ro (.int .i64) xs, .ro (.int .i64) ys] =>
    bif cntB xs && evtB ys (List.length (α := Int) xs) then some (.ret (.tup [.ro (.int .i64) (givL xs ys), .int .i64 0])) else some (.ret (.tup [.ro (.int .i64) [], .int .i64 2]))
  | _ => none
theorem giv_len (xs : List Int) : ∀ (ys l : List Int), (ys.foldl (putC xs) l).length = l.length
  | [], l => rfl
  | y :: ys, l => by rw [List.foldl_cons, giv_len xs ys]; simp [putC]
theorem take_fold {β : Type} (g : β → Int → β) (b : β) (ys : List Int) (i : Nat) (h : i < ys.length) : (ys.take (i + 1)).foldl g b = g ((ys.take i).foldl g b) (ys.getD i 0) := by
  rw [List.take_add_one, List.getElem?_eq_getElem h, List.foldl_append]
  simp [h]
theorem inB_iff {n lo hi : Int} : inB n lo hi = true ↔ lo ≤ n ∧ n ≤ hi := by simp [inB]
theorem cnt_len {xs : List Int} (h : cntB xs = true) : 1 ≤ xs.length ∧ xs.length ≤ 49 := by
  unfold cntB at h
  simp only [Bool.and_eq_true, inB_iff] at h
  omega
theorem evt_at {xs ys : List Int} (h1 : cntB xs = true) (h2 : evtB ys xs.length = true) (i : Nat) (hi : i < ys.length) : 0 ≤ ys.getD i 0 ∧ ys.getD i 0 < (xs.length : Int) := by
  have hl := cnt_len h1
  unfold evtB at h2
  rw [Bool.not_eq_true', List.any_eq_false] at h2
  have h3 := h2 i (List.mem_range.2 hi)
  unfold evtBad at h3
  have hw : IntKind.i64.wrap ((xs.length : Int) - 1) = (xs.length : Int) - 1 := by
    have := wrap_pred (i := xs.length - 1) (by have : maxLen = 9223372036854775807 := rfl; omega)
    rw [show ((xs.length - 1 + 1 : Nat) : Int) = (xs.length : Int) by omega] at this
    rw [this]; omega
  rw [hw] at h3
  cases hb : inB (ys.getD i 0) 0 ((xs.length : Int) - 1)
  · rw [hb] at h3; simp at h3
  · have := inB_iff.1 hb
    omega
theorem giv_loop {α : Type} (xs ys : List Int) (f : Int × List Int × Unit → Option (LRes (Int × List Int × Unit) α)) (k : AOut → Option α)
    (h : ∀ i, i < ys.length → f ((i : Int), (ys.take i).foldl (putC xs) (List.replicate xs.length 0), ()) = some (.cont (((i + 1 : Nat) : Int), (ys.take (i + 1)).foldl (putC xs) (List.replicate xs.length 0), ())))
    (hend : f ((ys.length : Int), givL xs ys, ()) = some (.brk 0 ((ys.length : Int), givL xs ys, ()))) :
    (afterL (iterL (ys.length + 1) f (0, List.replicate xs.length 0, ())) fun id y => if id = 0 then k (AOut.ret (AVal.tup [AVal.ro (Sh.int IntKind.i64) y.2.1, AVal.int IntKind.i64 0])) else none) = k (.ret (.tup [.ro (.int .i64) (givL xs ys), .int .i64 0])) := by
  have e : iterL (ys.length + 1) f (0, List.replicate xs.length 0, ()) = some (.brk 0 ((ys.length : Int), givL xs ys, ())) := by
    refine iterL_count (f := f) (fun i : Nat => ((i : Int), (ys.take i).foldl (putC xs) (List.replicate xs.length 0), ())) (fun y e => by cases e) ys.length h ?_ 0 (Nat.zero_le _) _ (by omega)
    simp only [List.take_length]
    exact hend
  rw [e]
  rfl
end Go.Proofs.Yteaadpgpihggeaa

namespace Go.Proofs.Yteaadpgpihggeaa
open Go.RowKit
def sameI (xs ys : List Int) : Bool := bif (xs.length : Int) != (ys.length : Int) then false else !((List.range xs.length).any fun i => xs.getD i 0 != ys.getD i 0)
def sameF : List AVal → Option AOut
  | [.ro (.int .i64) xs, .ro (.int .i64) ys] => some (.ret (.bool (sameI xs ys)))
  | _ => none
end Go.Proofs.Yteaadpgpihggeaa

namespace Go.Proofs.Yteaadpgpihggeaa
open Go.RowKit
def twoOk (xs ys : List Int) : Bool := cntB xs && (cntB ys && !((xs.length : Int) != (ys.length : Int)))
def betOut (b : Bool) (e : Int) : AOut := .ret (.tup [.bool b, .int .i64 e])
def rbetB (xs ys : List Int) : Bool := bif sumW xs != sumW ys then false else !((List.range xs.length).any fun i => decide (sumW (xs.drop i) < sumW (ys.drop i)))
def rbetF : List AVal → Option AOut
  | [.ro (.int .i64) xs, .ro (.int .i64) ys] => bif twoOk xs ys then some (betOut (rbetB xs ys) 0) else some (betOut false 2)
  | _ => none
end Go.Proofs.Yteaadpgpihggeaa

namespace Go.Proofs.Yteaadpgpihggeaa
open Go.RowKit
def difW (xs ys : List Int) : Nat → Int
  | 0 => 0
  | i + 1 => IntKind.i64.wrap (difW xs ys i + IntKind.i64.wrap (ys.getD i 0 - xs.getD i 0))
def sbetB (xs ys : List Int) : Bool := !((List.range xs.length).any fun i => decide (difW xs ys (i + 1) < 0)) && difW xs ys xs.length == 0
def sbetF : List AVal → Option AOut
  | [.ro (.int .i64) xs, .ro (.int .i64) ys] => bif twoOk xs ys then some (betOut (sbetB xs ys) 0) else some (betOut false 2)
  | _ => none
theorem sbetter_enter (args : Array Value) (w : World) : (callFunc 6 args).run Try.prog w = .ok (.enter 6 args) w := by kernel_rfl
theorem sbetter_text (N : Nat) (α : Type) (xs ys : List Int) (k : AOut → Option α) : evFn real tab (envF env7) N Try.f6 α [.ro (.int .i64) xs, .ro (.int .i64) ys] k =
 bif !cntB xs then k (betOut false 2) else bif !cntB ys then k (betOut false 2) else bif (xs.length : Int) != (ys.length : Int) then k (betOut false 2) else afterL (iterL N (fun x :
 Int × Int × Unit => bif decide (x.2.1 < (xs.length : Int)) then if 0 ≤ x.2.1 ∧ x.2.1 < (ys.length : Int) then if 0 ≤ x.2.1 ∧ x.2.1 < (xs.length : Int) then bif decide
 (IntKind.i64.wrap (x.1 + IntKind.i64.wrap (ys.getD x.2.1.toNat (Int.ofNat 0) - xs.getD x.2.1.toNat (Int.ofNat 0))) < 0) then finL (k (betOut false 0)) else some (LRes.cont
 (IntKind.i64.wrap (x.1 + IntKind.i64.wrap (ys.getD x.2.1.toNat (Int.ofNat 0) - xs.getD x.2.1.toNat (Int.ofNat 0))), IntKind.i64.wrap (x.2.1 + 1), ())) else none else none else some
 (LRes.brk 0 (x.1, x.2.1, ()))) (0, 0, ())) fun id y => if id = 0 then k (betOut (y.1 == 0) 0) else none := by kernel_rfl
theorem sbetter_plain {α : Type} (xs ys : List Int) (hl : xs.length ≤ maxLen) (k : AOut → Option α) :
    evFn real tab (envF env7) (xs.length + 1) Try.f6 α [.ro (.int .i64) xs, .ro (.int .i64) ys] k = bif twoOk xs ys then k (betOut (sbetB xs ys) 0) else k (betOut false 2) := by
  rw [sbetter_text]
  unfold twoOk sbetB
  cases cntB xs
  · rfl
  · cases cntB ys
    · rfl
    · cases hn : ((xs.length : Int) != (ys.length : Int))
      · have hlen : xs.length = ys.length := by
          have : (xs.length : Int) = (ys.length : Int) := by simpa using hn
          omega
        simp only [Bool.not_true, cond_false, Bool.not_false, Bool.and_self, cond_true]
        generalize hf : (fun x : Int × Int × Unit => (_ : Option (LRes (Int × Int × Unit) α))) = f
        have e : iterL (xs.length + 1) f (0, 0, ()) = bif (List.range xs.length).any (fun i => decide (difW xs ys (i + 1) < 0)) then finL (k (betOut false 0)) else some (.brk 0 (difW xs ys xs.length, (xs.length : Int), ())) := by
          refine iterL_any (f := f) (fun i : Nat => (difW xs ys i, (i : Int), ())) _ (fin_not _) (brk_not _ _) xs.length (fun i hi => ?_) ?_
          · rw [← hf]
            have h1 : decide ((i : Int) < (xs.length : Int)) = true := decide_eq_true (by omega)
            have h2 : IntKind.i64.wrap ((i : Int) + 1) = ((i + 1 : Nat) : Int) := wrap_small (n := i + 1) (by omega)
            simp only [h1, cond_true, h2]
            rw [if_pos ⟨by omega, by omega⟩, if_pos ⟨by omega, by omega⟩]
            rfl
          · rw [← hf]
            have h1 : decide ((xs.length : Int) < (xs.length : Int)) = false := decide_eq_false (by omega)
            simp only [h1, cond_false]
        rw [e]
        cases (List.range xs.length).any fun i => decide (difW xs ys (i + 1) < 0)
        · simp only [cond_false, Bool.not_false, Bool.true_and]
          rfl
        · simp only [cond_true, Bool.not_true, Bool.false_and]
          cases k (betOut false 0) <;> rfl
      · rfl
theorem sbetter_ok : FspOk Try.prog 6 (toFsp sbetF) := fsp_of mixed tabOk env7_ok Try.func6 sbetter_enter fun args out hs hF => by
  unfold sbetF at hF
  split at hF
  · rename_i xs ys
    refine ⟨_, (sbetter_plain xs ys (hs _ (by simp)).len some).trans ?_⟩
    cases hb : twoOk xs ys
    all_goals
      rw [hb] at hF
      exact hF
  · cases hF
end Go.Proofs.Yteaadpgpihggeaa

namespace Go.Proofs.Yteaadpgpihggeaa
open Go.RowKit
def addC (xs : List Int) (a y : Int) : Int := IntKind.i64.wrap (a + xs.getD y.toNat 0)
def evS (xs ys : List Int) : Int := ys.foldl (addC xs) 0
def denC (xs : List Int) (m : Int) : Int := IntKind.i64.wrap (sumW xs + m)
def lowC (xs ys : List Int) (m : Int) : Int := bif (ys.length : Int) == (xs.length : Int) then denC xs m else evS xs ys
def highC (xs ys : List Int) (m : Int) : Int := bif (ys.length : Int) == 0 then 0 else bif (ys.length : Int) == (xs.length : Int) then denC xs m else IntKind.i64.wrap (evS xs ys + m)
def highD (xs ys : List Int) (m : Int) : Int := bif (ys.length : Int) == 0 then 0 else IntKind.i64.wrap (evS xs ys + m)
def chnB (xs ys : List Int) (m : Int) : Bool := cntB xs && (evtB ys (List.length (α := Int) xs) && inB m 1 1000)
abbrev iv (n : Int) : AVal := .int .i64 n
def schnOut (a b c d e : Int) : AOut := .ret (.tup [.agg [iv a, iv b], .agg [iv c, iv d], iv e])
def rchnOut (a b c d e : Int) : AOut := .ret (.tup [.agg [iv a, iv b, iv c, iv d], iv e])
def schnF : List AVal → Option AOut
  | [.ro (.int .i64) xs, .ro (.int .i64) ys, .int .i64 m] =>
    bif chnB xs ys m then some (schnOut (lowC xs ys m) (denC xs m) (highD xs ys m) (denC xs m) 0) else some (schnOut 0 0 0 0 2)
  | _ => none
def rchnF : List AVal → Option AOut
  | [.ro (.int .i64) xs, .ro (.int .i64) ys, .int .i64 m] =>
    bif chnB xs ys m then some (rchnOut (lowC xs ys m) (denC xs m) (highD xs ys m) (denC xs m) 0) else some (rchnOut 0 0 0 0 2)
  | _ => none
theorem chn_loop {α β : Type} (xs ys : List Int) (f : Int × Int × Unit → Option (LRes (Int × Int × Unit) α)) (K : Int → Int → Option α)
    (h : ∀ i, i < ys.length → f ((ys.take i).foldl (addC xs) 0, (i : Int), ()) = some (.cont ((ys.take (i + 1)).foldl (addC xs) 0, ((i + 1 : Nat) : Int), ())))
    (hend : f (evS xs ys, (ys.length : Int), ()) = some (.brk 0 (evS xs ys, (ys.length : Int), ()))) :
    (afterL (iterL (ys.length + 1) f (0, 0, ())) fun id y => if id = 0 then K y.1 y.2.1 else none) = K (evS xs ys) (ys.length : Int) := by
  have e : iterL (ys.length + 1) f (0, 0, ()) = some (.brk 0 (evS xs ys, (ys.length : Int), ())) := by
    refine iterL_count (f := f) (fun i : Nat => ((ys.take i).foldl (addC xs) 0, (i : Int), ())) (fun y e => by cases e) ys.length h ?_ 0 (Nat.zero_le _) _ (by omega)
    simp only [List.take_length]
    exact hend
  rw [e]
  rfl
theorem schance_enter (args : Array Value) (w : World) : (callFunc 8 args).run Try.prog w = .ok (.enter 8 args) w := by kernel_rfl
theorem schance_text (N : Nat) (α : Type) (xs ys : List Int) (m : Int) (k : AOut → Option α) : evFn real tab (envF env7) N Try.f8 α [.ro (.int .i64) xs, .ro (.int .i64) ys, .int .i64 m] k =
 bif !cntB xs then k (schnOut 0 0 0 0 2) else bif !evtB ys xs.length then k (schnOut 0 0 0 0 2) else bif !inB m 1 1000 then k (schnOut 0 0 0 0 2) else afterL (iterL N (fun x : Int ×
 Int × Unit => bif decide (x.2.1 < (ys.length : Int)) then if 0 ≤ x.2.1 ∧ x.2.1 < (ys.length : Int) then if 0 ≤ ys.getD x.2.1.toNat (Int.ofNat 0) ∧ ys.getD x.2.1.toNat (Int.ofNat 0)
 < (xs.length : Int) then some (LRes.cont (IntKind.i64.wrap (x.1 + xs.getD (ys.getD x.2.1.toNat (Int.ofNat 0)).toNat (Int.ofNat 0)), IntKind.i64.wrap (x.2.1 + 1), ())) else none else
 none else some (LRes.brk 0 (x.1, x.2.1, ()))) (0, 0, ())) fun id y => if id = 0 then bif (ys.length : Int) == 0 then k (schnOut y.1 (denC xs m) 0 (denC xs m) 0) else bif (ys.length
 : Int) == (xs.length : Int) then k (schnOut (denC xs m) (denC xs m) (IntKind.i64.wrap (y.1 + m)) (denC xs m) 0) else k (schnOut y.1 (denC xs m) (IntKind.i64.wrap (y.1 + m)) (denC xs
 m) 0) else none := by kernel_rfl
theorem schance_plain {α : Type} (xs ys : List Int) (m : Int) (hl : ys.length ≤ maxLen) (k : AOut → Option α) :
    evFn real tab (envF env7) (ys.length + 1) Try.f8 α [.ro (.int .i64) xs, .ro (.int .i64) ys, .int .i64 m] k = bif chnB xs ys m then k (schnOut (lowC xs ys m) (denC xs m) (highD xs ys m) (denC xs m) 0) else k (schnOut 0 0 0 0 2) := by
  rw [schance_text]
  unfold chnB
  cases hc : cntB xs
  · rfl
  · cases he : evtB ys xs.length
    · rfl
    · cases hm : inB m 1 1000
      · rfl
      · simp only [Bool.not_true, cond_false, Bool.and_self, cond_true]
        refine (chn_loop (β := α) xs ys _ (fun a _ => bif (ys.length : Int) == 0 then k (schnOut a (denC xs m) 0 (denC xs m) 0)
                else
                  bif (ys.length : Int) == (xs.length : Int) then k (schnOut (denC xs m) (denC xs m) (IntKind.i64.wrap (a + m)) (denC xs m) 0)
                  else k (schnOut a (denC xs m) (IntKind.i64.wrap (a + m)) (denC xs m) 0)) (fun i hi => ?_) ?_).trans ?_
        · have h1 : decide ((i : Int) < (ys.length : Int)) = true := decide_eq_true (by omega)
          have h2 : IntKind.i64.wrap ((i : Int) + 1) = ((i + 1 : Nat) : Int) := wrap_small (n := i + 1) (by omega)
          have h3 := evt_at hc he i hi
          simp only [h1, cond_true, h2]
          rw [if_pos ⟨by omega, by omega⟩, show ((i : Int)).toNat = i from rfl, show Int.ofNat 0 = 0 from rfl, if_pos h3, take_fold _ _ _ _ hi]
          rfl
        · have h1 : decide ((ys.length : Int) < (ys.length : Int)) = false := decide_eq_false (by omega)
          simp only [h1, cond_false]
        · have hn := cnt_len hc
          unfold lowC highD
          cases h0 : (ys.length : Int) == 0
          · cases (ys.length : Int) == (xs.length : Int) <;> rfl
          · have h0' : (ys.length : Int) = 0 := by simpa using h0
            have h5 : ((ys.length : Int) == (xs.length : Int)) = false := by
              rw [beq_eq_false_iff_ne]; omega
            rw [h5]
            rfl
theorem schance_ok : FspOk Try.prog 8 (toFsp schnF) := fsp_of mixed tabOk env7_ok Try.func8 schance_enter fun args out hs hF => by
  unfold schnF at hF
  split at hF
  · rename_i xs ys m
    refine ⟨_, (schance_plain xs ys m (hs _ (by simp)).len some).trans ?_⟩
    cases hb : chnB xs ys m
    all_goals
      rw [hb] at hF
      exact hF
  · cases hF
end Go.Proofs.Yteaadpgpihggeaa

namespace Go.Proofs.Yteaadpgpihggeaa
open Go.RowKit
def farB (n : Int) : Bool := decide (n < -68719476736) || decide (n > 68719476736)
def valsB (xs : List Int) (m : Int) : Bool := !(xs.any farB) && ((xs.length : Int) == m)
def valsF : List AVal → Option AOut
  | [.ro (.int .i64) xs, .int .i64 m] => some (.ret (.bool (valsB xs m)))
  | _ => none
end Go.Proofs.Yteaadpgpihggeaa

namespace Go.Proofs.Yteaadpgpihggeaa
open Go.RowKit
def fixPanic (e : Int) : List PanicEntry := [{ v := .iface 106 (.agg #[.int .i64 e]), recovered := false }]
theorem need_yes (e : Int) (w : World) : Calls Try.prog 45 #[.bool true, .int .i64 e] w fun r w' => r = .returned (.tuple #[]) ∧ w = w' := by
  go_enter Try.func45, Try.ntmps45
  go_wp2
  go_end0
  exact ⟨rfl, rfl⟩
theorem need_no (e : Int) (w : World) : Calls Try.prog 45 #[.bool false, .int .i64 e] w fun r w' => r = .panicked (fixPanic e) ∧ w = w' := by
  go_enter Try.func45, Try.ntmps45
  go_wp2
  exact ⟨rfl, rfl, rfl⟩
end Go.Proofs.Yteaadpgpihggeaa

namespace Go.Proofs.Yteaadpgpihggeaa
open Go.RowKit
namespace MulN
theorem maskN (a : Nat) (ha : a < 18446744073709551616) : bits .and .u64 (a : Int) 4294967295 = ((a % 4294967296 : Nat) : Int) := by
  have h := bits_and_u64_nat a 4294967295 ha (by omega)
  have e : a &&& 4294967295 = a % 4294967296 := Nat.and_two_pow_sub_one_eq_mod a 32
  rw [e] at h
  exact h
theorem divN (a : Nat) : (a : Int) / 4294967296 = ((a / 4294967296 : Nat) : Int) := by omega
theorem mulN (a b : Nat) : (a : Int) * (b : Int) = ((a * b : Nat) : Int) := (Int.natCast_mul a b).symm
theorem addN (a b : Nat) : (a : Int) + (b : Int) = ((a + b : Nat) : Int) := (Int.natCast_add a b).symm
theorem wrapN (a : Nat) (ha : a < 18446744073709551616) : IntKind.u64.wrap (a : Int) = (a : Int) := by rw [IntKind.wrap_u64]; omega
theorem wrapM (a : Nat) : IntKind.u64.wrap (a : Int) = ((a % 18446744073709551616 : Nat) : Int) := by rw [IntKind.wrap_u64]; omega
end MulN
set_option maxHeartbeats 1000000 in
theorem mul64_nat (x y : Nat) (hx : x < 18446744073709551616) (hy : y < 18446744073709551616) (w : World) :
    Calls Try.prog 62 #[.int .u64 x, .int .u64 y] w fun e w' => e = .returned (.tuple #[.int .u64 ((x * y / 18446744073709551616 : Nat) : Int), .int .u64 ((x * y % 18446744073709551616 : Nat) : Int)]) ∧ w = w' := by
  obtain ⟨bd, bt, bw, hhi⟩ := Lib.mul64_hi x y hx hy
  have ba := Lib.half_mul_le (a := x / 4294967296) (b := y / 4294967296) (by omega) (by omega)
  have bb := Lib.half_mul_le (a := x / 4294967296) (b := y % 4294967296) (by omega) (by omega)
  have bc := Lib.half_mul_le (a := x % 4294967296) (b := y / 4294967296) (by omega) (by omega)
  have ba' : x / 4294967296 * (y / 4294967296) < 18446744073709551616 := by omega
  have bb' : x / 4294967296 * (y % 4294967296) < 18446744073709551616 := by omega
  have bc' : x % 4294967296 * (y / 4294967296) < 18446744073709551616 := by omega
  have bh1 : x / 4294967296 * (y / 4294967296) + (x / 4294967296 * (y % 4294967296) + x % 4294967296 * (y % 4294967296) / 4294967296) / 4294967296 < 18446744073709551616 := by omega
  have bh : x / 4294967296 * (y / 4294967296) + (x / 4294967296 * (y % 4294967296) + x % 4294967296 * (y % 4294967296) / 4294967296) / 4294967296 + ((x / 4294967296 * (y % 4294967296) + x % 4294967296 * (y % 4294967296) / 4294967296) % 4294967296 + x % 4294967296 * (y / 4294967296)) / 4294967296 < 18446744073709551616 := by omega
  go_enter Try.func62, Try.ntmps62
  go_wp2
  simp only [MulN.maskN x hx, MulN.maskN y hy, MulN.divN, MulN.mulN, MulN.addN, MulN.wrapN _ bd, MulN.wrapN _ bb', MulN.wrapN _ bt, MulN.maskN _ bt, MulN.wrapN _ bc', MulN.wrapN _ bw, MulN.wrapN _ ba', MulN.wrapN _ bh1, MulN.wrapN _ bh, MulN.wrapM (x * y)]
  rw [hhi]
  go_ret2
  exact ⟨rfl, rfl⟩
def Word (x : Int) : Prop := 0 ≤ x ∧ x < 18446744073709551616
theorem mul64 (x y : Int) (hx : Word x) (hy : Word y) (w : World) :
    Calls Try.prog 62 #[.int .u64 x, .int .u64 y] w fun e w' => e = .returned (.tuple #[.int .u64 (x * y / 18446744073709551616), .int .u64 (x * y % 18446744073709551616)]) ∧ w = w' := by
  obtain ⟨h1, h2⟩ := hx; obtain ⟨h3, h4⟩ := hy
  obtain ⟨x, rfl⟩ := Int.eq_ofNat_of_zero_le h1
  obtain ⟨y, rfl⟩ := Int.eq_ofNat_of_zero_le h3
  exact mul64_nat x y (by omega) (by omega) w
theorem add64 (x y c : Int) (hx : 0 ≤ x) (hy : 0 ≤ y) (hc0 : 0 ≤ c) (hc : c ≤ 1) (w : World) : (callFunc 66 #[.int .u64 x, .int .u64 y, .int .u64 c]).run Try.prog w =
    .ok (.value (.tuple #[.int .u64 ((x + y + c) % 18446744073709551616), .int .u64 ((x + y + c) / 18446744073709551616)])) w := by
  rw [run_callFunc_extern Try.func66 (by kernel_rfl) (by kernel_rfl) (by kernel_rfl) (e := add64Entry) (by kernel_rfl), run_add64 x y c hx hy hc0 hc]
  rfl
theorem add64_0 (x y : Int) (hx : 0 ≤ x) (hy : 0 ≤ y) (w : World) : (callFunc 66 #[.int .u64 x, .int .u64 y, .int .u64 0]).run Try.prog w =
    .ok (.value (.tuple #[.int .u64 ((x + y) % 18446744073709551616), .int .u64 ((x + y) / 18446744073709551616)])) w := by
  simpa using add64 x y 0 hx hy (Int.le_refl 0) (by decide) w
theorem len8_idx (i : Int) (h0 : 0 ≤ i) (h1 : i ≤ 255) (h : i.toNat < Lib.len8tab.size) : ((Lib.len8tab[i.toNat]'h).toNat : Int) = Lib.bitLen i.toNat := by
  have e := Lib.len8_eq ⟨i.toNat, by omega⟩
  simp only [Int.toNat_of_nonneg h0, Lib.len8, ByteArray.getElem?_lt' _ _ h, Option.getD_some] at e
  exact e
theorem len_fin (x i k : Int) (h0 : 0 ≤ i) (h1 : i ≤ 255) (h : i.toNat < Lib.len8tab.size) (hk0 : 0 ≤ k) (hk1 : k ≤ 56) (hk : (Lib.bitLen x.toNat : Int) = k + Lib.bitLen i.toNat) :
    wrap64 (k + wrap64 ((Lib.len8tab[i.toNat]'h).toNat : Int)) = Lib.bitLen x.toNat := by
  have l := Lib.bitLen_le8' i h0 h1
  rw [len8_idx i h0 h1 h, hk]
  unfold wrap64
  omega
theorem len_fin0 (x : Int) (h0 : 0 ≤ x) (h1 : x ≤ 255) (h : x.toNat < Lib.len8tab.size) :
    wrap64 (wrap64 ((Lib.len8tab[x.toNat]'h).toNat : Int)) = Lib.bitLen x.toNat := by
  have l := Lib.bitLen_le8' x h0 h1
  rw [len8_idx x h0 h1 h]
  unfold wrap64
  omega
set_option maxHeartbeats 4000000 in
set_option maxRecDepth 100000 in
theorem len64 (x : Int) (w : World) (h0 : 0 ≤ x) (h1 : x ≤ 18446744073709551615) :
    Calls Try.prog 73 #[.int .u64 x] w fun e w' => e = .returned (.int .i64 (Lib.bitLen x.toNat)) ∧ w = w' := by
  have hsz := Lib.len8tab_size
  go_enter Try.func73, Try.ntmps73
  go_wp2
  all_goals (go_ret; refine ⟨congrArg Ending.returned (congrArg (Value.int IntKind.i64) ?_), rfl⟩)
  all_goals first
    | exact len_fin x (x / 4294967296 / 65536 / 256) 56 (by omega) (by omega) _ (by omega) (by omega) (by have s := Lib.bitLen_shift56 x.toNat (by omega) (by omega); have e : (x / 4294967296 / 65536 / 256).toNat = x.toNat / 72057594037927936 := (by omega); rw [e]; omega)
    | exact len_fin x (x / 4294967296 / 65536) 48 (by omega) (by omega) _ (by omega) (by omega) (by have s := Lib.bitLen_shift48 x.toNat (by omega) (by omega); have e : (x / 4294967296 / 65536).toNat = x.toNat / 281474976710656 := (by omega); rw [e]; omega)
    | exact len_fin x (x / 4294967296 / 256) 40 (by omega) (by omega) _ (by omega) (by omega) (by have s := Lib.bitLen_shift40 x.toNat (by omega) (by omega); have e : (x / 4294967296 / 256).toNat = x.toNat / 1099511627776 := (by omega); rw [e]; omega)
    | exact len_fin x (x / 4294967296) 32 (by omega) (by omega) _ (by omega) (by omega) (by have s := Lib.bitLen_shift32 x.toNat (by omega) (by omega); have e : (x / 4294967296).toNat = x.toNat / 4294967296 := (by omega); rw [e]; omega)
    | exact len_fin x (x / 65536 / 256) 24 (by omega) (by omega) _ (by omega) (by omega) (by have s := Lib.bitLen_shift24 x.toNat (by omega) (by omega); have e : (x / 65536 / 256).toNat = x.toNat / 16777216 := (by omega); rw [e]; omega)
    | exact len_fin x (x / 65536) 16 (by omega) (by omega) _ (by omega) (by omega) (by have s := Lib.bitLen_shift16 x.toNat (by omega) (by omega); have e : (x / 65536).toNat = x.toNat / 65536 := (by omega); rw [e]; omega)
    | exact len_fin x (x / 256) 8 (by omega) (by omega) _ (by omega) (by omega) (by have s := Lib.bitLen_shift8 x.toNat (by omega) (by omega); have e : (x / 256).toNat = x.toNat / 256 := (by omega); rw [e]; omega)
    | exact len_fin0 x (by omega) (by omega) _
theorem bitLen_spec : ∀ (f x : Nat), 0 < x → x < 2 ^ f → 0 < Lib.bitLenAux f x ∧ Lib.bitLenAux f x ≤ f ∧ 2 ^ (Lib.bitLenAux f x - 1) ≤ x ∧ x < 2 ^ Lib.bitLenAux f x
  | 0, x, h, hx => by simp at hx; omega
  | f + 1, x, h, hx => by
    simp only [Lib.bitLenAux]
    rw [if_neg (by omega)]
    by_cases h2 : x / 2 = 0
    · have hx1 : x = 1 := by omega
      subst hx1
      cases f with
      | zero => simp [Lib.bitLenAux]
      | succ f => simp [Lib.bitLenAux]
    · obtain ⟨a, b, c, d⟩ := bitLen_spec f (x / 2) (by omega) (by rw [Nat.pow_succ] at hx; omega)
      generalize Lib.bitLenAux f (x / 2) = k at *
      obtain ⟨j, rfl⟩ : ∃ j, k = j + 1 := ⟨k - 1, by omega⟩
      have e1 : 1 + (j + 1) = (j + 1) + 1 := by omega
      rw [e1, Nat.add_sub_cancel, Nat.pow_succ 2 (j + 1), Nat.pow_succ 2 j] at *
      exact ⟨by omega, by omega, by omega, by omega⟩
theorem lead_fin (n k : Nat) (b : k ≤ 64) (a : 0 < k) (c : 2 ^ (k - 1) ≤ n) (d : n < 2 ^ k) : 64 - k ≤ 63 ∧ 2 ^ 63 ≤ n * 2 ^ (64 - k) ∧ n * 2 ^ (64 - k) < 2 ^ 64 := by
  have p1 : 2 ^ (k - 1) * 2 ^ (64 - k) = 2 ^ 63 := by
    rw [← Nat.pow_add, show k - 1 + (64 - k) = 63 by omega]
  have p2 : 2 ^ k * 2 ^ (64 - k) = 2 ^ 64 := by
    rw [← Nat.pow_add, show k + (64 - k) = 64 by omega]
  have q1 := Nat.mul_le_mul_right (2 ^ (64 - k)) c
  have q2 := Nat.mul_lt_mul_of_pos_right d (Nat.two_pow_pos (64 - k))
  rw [p1] at q1
  rw [p2] at q2
  exact ⟨by omega, q1, q2⟩
theorem lead64 (n : Nat) (w : World) (h0 : 0 < n) (h1 : n < 18446744073709551616) :
    Calls Try.prog 70 #[.int .u64 n] w fun e w' => (∃ s : Nat, e = .returned (.int .i64 s) ∧ s ≤ 63 ∧ 2 ^ 63 ≤ n * 2 ^ s ∧ n * 2 ^ s < 2 ^ 64) ∧ w = w' := by
  obtain ⟨a, b, c, d⟩ := bitLen_spec 64 n h0 (by have : (2:Nat) ^ 64 = 18446744073709551616 := by decide
                                                 omega)
  have hf := lead_fin n _ b a c d
  have hb : Lib.bitLen n ≤ 64 := b
  have hs : (64 - Lib.bitLen n : Int) = ((64 - Lib.bitLen n : Nat) : Int) := by omega
  have hf' : 64 - Lib.bitLen n ≤ 63 ∧ 2 ^ 63 ≤ n * 2 ^ (64 - Lib.bitLen n) ∧ n * 2 ^ (64 - Lib.bitLen n) < 2 ^ 64 := hf
  clear a b c d hf
  go_enter Try.func70, Try.ntmps70
  go_wp2_with (go_at_call 73; refine (len64 _ _ (by omega) (by omega)).mono ?_; rintro e w' ⟨rfl, rfl⟩; rw [Int.toNat_natCast])
  go_ret
  exact ⟨⟨_, rfl, hf'⟩, rfl⟩
end Go.Proofs.Yteaadpgpihggeaa

namespace Go.Proofs.Yteaadpgpihggeaa.NumA
theorem digit_low (u v q r y1 y0 n1 : Nat) (hv : v = y1 * 4294967296 + y0) (hi : q * y1 + r = u) (hy0 : y0 < 4294967296)
    (ht : (q < 4294967296 ∧ q * y0 ≤ 4294967296 * r + n1) ∨ (4294967296 ≤ r ∧ q ≤ 4294967296)) : q * v ≤ u * 4294967296 + n1 := by
  have e : q * v = (q * y1) * 4294967296 + q * y0 := by rw [hv, Nat.mul_add, Nat.mul_assoc]
  have e2 : u * 4294967296 = (q * y1) * 4294967296 + r * 4294967296 := by rw [← hi, Nat.add_mul]
  rw [e, e2]
  have h : q * y0 ≤ r * 4294967296 + n1 := by
    rcases ht with ⟨_, h⟩ | ⟨h1, h2⟩
    · rw [Nat.mul_comm r]; exact h
    · have := Nat.mul_le_mul h2 (Nat.le_of_lt hy0)
      have := Nat.mul_le_mul_right 4294967296 h1
      omega
  omega
theorem digit_high (u v q n1 : Nat) (h : u * 4294967296 + n1 < q * v) : (u * 4294967296 + n1) / v < q := by
  have hv : 0 < v := by
    rcases Nat.eq_zero_or_pos v with h0 | h0
    · subst h0; omega
    · exact h0
  exact (Nat.div_lt_iff_lt_mul hv).2 h
theorem digit_more (u v q r y1 y0 n1 : Nat) (hv : v = y1 * 4294967296 + y0) (hi : q * y1 + r = u) (hn : n1 < 4294967296) (hu : u < v)
    (ht : 4294967296 ≤ q ∨ 4294967296 * r + n1 < q * y0) : (u * 4294967296 + n1) / v < q := by
  apply digit_high
  rcases ht with h | h
  · have h1 := Nat.mul_le_mul_right v h
    have h2 : (u + 1) * 4294967296 ≤ v * 4294967296 := Nat.mul_le_mul_right _ hu
    rw [Nat.mul_comm] at h1
    omega
  · have e : q * v = (q * y1) * 4294967296 + q * y0 := by rw [hv, Nat.mul_add, Nat.mul_assoc]
    have e2 : u * 4294967296 = (q * y1) * 4294967296 + r * 4294967296 := by rw [← hi, Nat.add_mul]
    omega
theorem digit_is (u v q n1 : Nat) (hl : q * v ≤ u * 4294967296 + n1) (hh : (u * 4294967296 + n1) / v ≤ q) (hv : 0 < v) : q = (u * 4294967296 + n1) / v :=
  Nat.le_antisymm ((Nat.le_div_iff_mul_le hv).2 hl) hh
theorem first_high (u v y1 y0 n1 : Nat) (hv : v = y1 * 4294967296 + y0) (hy0 : y0 < 4294967296) (hy1 : 2147483648 ≤ y1) (hn : n1 < 4294967296) (hu : u < v) :
    (u * 4294967296 + n1) / v ≤ u / y1 ∧ u / y1 ≤ 4294967297 := by
  have hy : 0 < y1 := by omega
  constructor
  · have h := Nat.lt_mul_div_succ u hy
    apply Nat.le_of_lt_succ
    apply digit_high
    rw [hv]
    have e : (u / y1 + 1) * (y1 * 4294967296 + y0) = y1 * (u / y1 + 1) * 4294967296 + (u / y1 + 1) * y0 := by
      rw [Nat.mul_add, ← Nat.mul_assoc, Nat.mul_comm (u / y1 + 1) y1]
    show _ < (u / y1 + 1) * _
    rw [e]
    have : (u + 1) * 4294967296 ≤ y1 * (u / y1 + 1) * 4294967296 := Nat.mul_le_mul_right _ h
    omega
  · apply Nat.le_of_lt_succ
    rw [Nat.div_lt_iff_lt_mul hy]
    omega
theorem rest_is (u v n1 : Nat) : u * 4294967296 + n1 - (u * 4294967296 + n1) / v * v = (u * 4294967296 + n1) % v := by
  have := Nat.div_add_mod (u * 4294967296 + n1) v
  rw [Nat.mul_comm] at this
  omega
theorem digit_lt (u v n1 : Nat) (hn : n1 < 4294967296) (hu : u < v) : (u * 4294967296 + n1) / v < 4294967296 := by
  rw [Nat.div_lt_iff_lt_mul (by omega)]
  have := Nat.mul_le_mul_right 4294967296 hu
  rw [Nat.mul_comm 4294967296]
  omega
theorem two_digits_of (B u v n1 n0 : Nat) (hv : 0 < v) :
    (u * (B * B) + (n1 * B + n0)) / v = (u * B + n1) / v * B + ((u * B + n1) % v * B + n0) / v ∧
    (u * (B * B) + (n1 * B + n0)) % v = ((u * B + n1) % v * B + n0) % v := by
  have h := Nat.div_add_mod (u * B + n1) v
  generalize (u * B + n1) / v = q at *
  generalize (u * B + n1) % v = r at *
  have e : u * (B * B) + (n1 * B + n0) = v * (q * B) + (r * B + n0) := by
    have : (v * q + r) * B = (u * B + n1) * B := by rw [h]
    rw [Nat.add_mul, Nat.add_mul, Nat.mul_assoc, Nat.mul_assoc] at this
    omega
  rw [e]
  exact ⟨by rw [Nat.mul_add_div hv], by rw [Nat.mul_add_mod]⟩
theorem two_digits (u v n1 n0 : Nat) (hv : 0 < v) :
    (u * 18446744073709551616 + (n1 * 4294967296 + n0)) / v = (u * 4294967296 + n1) / v * 4294967296 + ((u * 4294967296 + n1) % v * 4294967296 + n0) / v ∧
    (u * 18446744073709551616 + (n1 * 4294967296 + n0)) % v = ((u * 4294967296 + n1) % v * 4294967296 + n0) % v :=
  two_digits_of 4294967296 u v n1 n0 hv
theorem shifted (n y s : Nat) : n * 2 ^ s / (y * 2 ^ s) = n / y ∧ n * 2 ^ s % (y * 2 ^ s) / 2 ^ s = n % y := by
  have h : 0 < 2 ^ s := Nat.two_pow_pos s
  exact ⟨Nat.mul_div_mul_right _ _ h, by rw [Nat.mul_mod_mul_right, Nat.mul_div_cancel _ h]⟩
def Dig (u v y1 n1 Q R : Nat) : Prop := Q * y1 + R = u ∧ (u * 4294967296 + n1) / v ≤ Q ∧ Q ≤ 4294967297 ∧ R < 4294967296
def DigAt (u v n1 Q : Nat) : Prop := Q = (u * 4294967296 + n1) / v
structure Norm (v y1 y0 : Nat) : Prop where
  eq : v = y1 * 4294967296 + y0
  low : y0 < 4294967296
  high : 2147483648 ≤ y1
  top : y1 < 4294967296
theorem Dig.first {u v y1 y0 n1 : Nat} (h : Norm v y1 y0) (hn : n1 < 4294967296) (hu : u < v) : Dig u v y1 n1 (u / y1) (u - u / y1 * y1) := by
  obtain ⟨a, b⟩ := first_high u v y1 y0 n1 h.eq h.low h.high hn hu
  have e := Nat.div_add_mod' u y1
  have m := Nat.mod_lt u (show 0 < y1 by have := h.high; omega)
  have t := h.top
  exact ⟨by omega, a, b, by omega⟩
theorem Dig.done {u v y1 y0 n1 Q R : Nat} (h : Norm v y1 y0) (d : Dig u v y1 n1 Q R) (h1 : Q < 4294967296) (h2 : Q * y0 ≤ 4294967296 * R + n1) : DigAt u v n1 Q := by
  have hh := h.high
  exact digit_is u v Q n1 (digit_low u v Q R y1 y0 n1 h.eq d.1 h.low (.inl ⟨h1, h2⟩)) d.2.1 (by rw [h.eq]; omega)
theorem Dig.less {u v y1 y0 n1 Q R : Nat} (h : Norm v y1 y0) (d : Dig u v y1 n1 Q R) (hn : n1 < 4294967296) (hu : u < v) (ht : 4294967296 ≤ Q ∨ 4294967296 * R + n1 < Q * y0) :
    0 < Q ∧ (R + y1 < 4294967296 → Dig u v y1 n1 (Q - 1) (R + y1)) ∧ (4294967296 ≤ R + y1 → DigAt u v n1 (Q - 1)) := by
  have hm := digit_more u v Q R y1 y0 n1 h.eq d.1 hn hu ht
  obtain ⟨d1, d2, d3, d4⟩ := d
  have hh := h.high
  have hQ : 0 < Q := Nat.lt_of_le_of_lt (Nat.zero_le _) hm
  generalize hg : (u * 4294967296 + n1) / v = g at *
  obtain ⟨q, rfl⟩ : ∃ q, Q = q + 1 := ⟨Q - 1, by omega⟩
  rw [Nat.add_sub_cancel]
  rw [Nat.add_mul, Nat.one_mul] at d1
  refine ⟨by omega, fun hr => ⟨by omega, by rw [hg]; omega, by omega, hr⟩, fun hr => ?_⟩
  exact digit_is u v q n1 (digit_low u v q (R + y1) y1 y0 n1 h.eq (by omega) h.low (.inr ⟨hr, by omega⟩)) (by rw [hg]; omega) (by rw [h.eq]; omega)
theorem DigAt.rest {u v n1 Q : Nat} (d : DigAt u v n1 Q) (hu : u < v) (hn : n1 < 4294967296) (hv : v < 18446744073709551616) :
    Q < 4294967296 ∧ ((((u : Int) * 4294967296 % 18446744073709551616 + n1) % 18446744073709551616 - (Q : Int) * v % 18446744073709551616) % 18446744073709551616 = (((u * 4294967296 + n1) % v : Nat) : Int)) ∧ (u * 4294967296 + n1) % v < v := by
  have hl := digit_lt u v n1 hn hu
  have hr := rest_is u v n1
  have hm := Nat.mod_lt (u * 4294967296 + n1) (show 0 < v by omega)
  have hd := Nat.div_mul_le_self (u * 4294967296 + n1) v
  unfold DigAt at d
  rw [← d] at hr hl hd
  refine ⟨hl, ?_, hm⟩
  generalize (u * 4294967296 + n1) % v = r at *
  have e : (Q : Int) * v = ((Q * v : Nat) : Int) := (Int.natCast_mul Q v).symm
  rw [e]
  generalize Q * v = k at *
  omega
end Go.Proofs.Yteaadpgpihggeaa.NumA

namespace Go.Proofs.Yteaadpgpihggeaa
open Go.RowKit NumA
theorem div64_small (lo y : Nat) (w : World) (h0 : 0 < y) (hy : y < 18446744073709551616) (hlo : lo < 18446744073709551616) :
    Calls Try.prog 65 #[.int .u64 0, .int .u64 lo, .int .u64 y] w fun e w' => e = .returned (.tuple #[.int .u64 ((lo / y : Nat) : Int), .int .u64 ((lo % y : Nat) : Int)]) ∧ ∃ n, w' = w.drewN n := by
  have h1 : ((y : Int) == 0) = false := by simp; omega
  have h2 : ¬ (y : Int) ≤ 0 := by omega
  have h3 : ¬ (y : Int) = 0 := by omega
  have hl := Nat.div_le_self lo y
  have e : ∀ k : Int, k = ((lo / y : Nat) : Int) → IntKind.u64.wrap k = ((lo / y : Nat) : Int) := by
    intro k hk; rw [hk, IntKind.wrap_u64]; generalize lo / y = g at *; omega
  have e' := e (lo / y) (Int.natCast_ediv lo y).symm
  clear e
  go_enter Try.func65, Try.ntmps65
  go_wp2
  go_quiet (fail)
  go_wp2
  go_ret2
  exact ⟨rfl, _, rfl⟩
theorem shl_u (y s : Nat) (h2 : y * 2 ^ s < 2 ^ 64) : IntKind.u64.wrap ((y : Int) * 2 ^ s) = ((y * 2 ^ s : Nat) : Int) := by
  have e : (y : Int) * 2 ^ s = ((y * 2 ^ s : Nat) : Int) := by rw [Int.natCast_mul, Int.natCast_pow]; rfl
  have h2' : y * 2 ^ s < 18446744073709551616 := h2
  rw [e, IntKind.wrap_u64]
  generalize y * 2 ^ s = k at *
  omega
theorem shl_mod (y s : Nat) : IntKind.u64.wrap ((y : Int) * 2 ^ s) = ((y * 2 ^ s % 18446744073709551616 : Nat) : Int) := by
  have e : (y : Int) * 2 ^ s = ((y * 2 ^ s : Nat) : Int) := by rw [Int.natCast_mul, Int.natCast_pow]; rfl
  rw [e, IntKind.wrap_u64]
  generalize y * 2 ^ s = k at *
  omega
structure Setup (hi lo y s v y1 y0 u n1 n0 : Nat) : Prop where
  norm : Norm v y1 y0
  ltv : v < 18446744073709551616
  ltu : u < v
  lt1 : n1 < 4294967296
  lt0 : n0 < 4294967296
  quo : (u * 18446744073709551616 + (n1 * 4294967296 + n0)) / v = (hi * 18446744073709551616 + lo) / y
  rem : (u * 18446744073709551616 + (n1 * 4294967296 + n0)) % v / 2 ^ s = (hi * 18446744073709551616 + lo) % y
theorem set_up (hi lo y s : Nat) (hh : hi < y) (hlo : lo < 18446744073709551616) (hs : s ≤ 63) (h1 : 2 ^ 63 ≤ y * 2 ^ s) (h2 : y * 2 ^ s < 2 ^ 64) :
    ∃ v y1 y0 u n1 n0 n10 : Nat, IntKind.u64.wrap ((y : Int) * 2 ^ s) = (v : Int) ∧ bits .and .u64 (v : Int) 4294967295 = (y0 : Int) ∧ (v : Int) / 4294967296 = (y1 : Int) ∧
      bits .or .u64 (IntKind.u64.wrap ((hi : Int) * 2 ^ s)) ((lo : Int) / 2 ^ (64 - s)) = (u : Int) ∧ IntKind.u64.wrap ((lo : Int) * 2 ^ s) = (n10 : Int) ∧
      bits .and .u64 (n10 : Int) 4294967295 = (n0 : Int) ∧ (n10 : Int) / 4294967296 = (n1 : Int) ∧ Setup hi lo y s v y1 y0 u n1 n0 := by
  have hP : 0 < 2 ^ s := Nat.two_pow_pos s
  have hPQ : 2 ^ s * 2 ^ (64 - s) = 18446744073709551616 := by rw [← Nat.pow_add, show s + (64 - s) = 64 by omega]
  have hQ : 0 < 2 ^ (64 - s) := Nat.two_pow_pos _
  have hhs : (hi + 1) * 2 ^ s ≤ y * 2 ^ s := Nat.mul_le_mul_right _ hh
  rw [Nat.add_mul, Nat.one_mul] at hhs
  have h2' : y * 2 ^ s < 18446744073709551616 := h2
  have h1' : 9223372036854775808 ≤ y * 2 ^ s := h1
  have hl1 : lo / 2 ^ (64 - s) < 2 ^ s := by
    rw [Nat.div_lt_iff_lt_mul hQ, hPQ]; exact hlo
  have hor : hi * 2 ^ s ||| lo / 2 ^ (64 - s) = hi * 2 ^ s + lo / 2 ^ (64 - s) := nat_join s _ _ (by simp) hl1
  have ehi := shl_u hi s (by show _ < 18446744073709551616; omega)
  have elo : ((lo : Int) / 2 ^ (64 - s)) = ((lo / 2 ^ (64 - s) : Nat) : Int) := by
    rw [Int.natCast_ediv, Int.natCast_pow]; rfl
  have hdm := Nat.div_add_mod lo (2 ^ (64 - s))
  have hsplit : lo * 2 ^ s = lo / 2 ^ (64 - s) * 18446744073709551616 + lo * 2 ^ s % 18446744073709551616 := by
    have : lo * 2 ^ s / 18446744073709551616 = lo / 2 ^ (64 - s) := by
      rw [← hPQ, Nat.mul_comm lo, Nat.mul_div_mul_left _ _ hP]
    have := Nat.div_add_mod (lo * 2 ^ s) 18446744073709551616
    omega
  have hsh := shifted (hi * 18446744073709551616 + lo) y s
  have hall : (hi * 18446744073709551616 + lo) * 2 ^ s = (hi * 2 ^ s + lo / 2 ^ (64 - s)) * 18446744073709551616 + (lo * 2 ^ s % 18446744073709551616 / 4294967296 * 4294967296 + lo * 2 ^ s % 18446744073709551616 % 4294967296) := by
    rw [Nat.add_mul, Nat.mul_right_comm]
    omega
  rw [hall] at hsh
  refine ⟨y * 2 ^ s, y * 2 ^ s / 4294967296, y * 2 ^ s % 4294967296, hi * 2 ^ s + lo / 2 ^ (64 - s), lo * 2 ^ s % 18446744073709551616 / 4294967296, lo * 2 ^ s % 18446744073709551616 % 4294967296, lo * 2 ^ s % 18446744073709551616,
    shl_u y s h2, MulN.maskN _ h2', by omega, ?_, shl_mod lo s, MulN.maskN _ (by omega), by omega, ⟨⟨by omega, by omega, by omega, by omega⟩, h2', by omega, by omega, by omega, hsh.1, hsh.2⟩⟩
  rw [ehi, elo, bits_or_u64_nat _ _ (by omega) (by omega), hor]
theorem u64_mul (a b : Nat) (h : a * b < 18446744073709551616) : IntKind.u64.wrap ((a : Int) * b) = ((a * b : Nat) : Int) := by
  rw [IntKind.wrap_u64, ← Int.natCast_mul]; omega
theorem dig_setup {u v y1 y0 n1 : Nat} (h : Norm v y1 y0) (hn : n1 < 4294967296) (hu : u < v) (hv : v < 18446744073709551616) :
    ∃ q p r : Nat, (u : Int) / y1 = (q : Int) ∧ IntKind.u64.wrap ((q : Int) * y1) = (p : Int) ∧ (u : Int) - p = (r : Int) ∧ p ≤ u ∧ q ≤ 4294967297 ∧ r < 4294967296 ∧ 0 < y1 ∧ y1 < 4294967296 ∧ u < 18446744073709551616 ∧ Dig u v y1 n1 q r := by
  have d := Dig.first h hn hu
  have e := Nat.div_mul_le_self u y1
  have t := h.high
  have t' := h.top
  refine ⟨u / y1, u / y1 * y1, u - u / y1 * y1, (Int.natCast_ediv u y1).symm, u64_mul _ _ (by omega), by omega, e, d.2.2.1, d.2.2.2, by omega, t', by omega, d⟩
theorem dig_test {u v y1 y0 n1 Q R : Nat} (h : Norm v y1 y0) (d : Dig u v y1 n1 Q R) (hn : n1 < 4294967296) (hu : u < v) (ht : 4294967296 ≤ Q ∨ 4294967296 * R + n1 < Q * y0) :
    0 < Q ∧ R < 4294967296 ∧ (R + y1 < 4294967296 → Dig u v y1 n1 (Q - 1) (R + y1)) ∧ (4294967296 ≤ R + y1 → DigAt u v n1 (Q - 1)) :=
  let ⟨a, b, c⟩ := d.less h hn hu ht; ⟨a, d.2.2.2, b, c⟩
theorem mul_small {Q y0 : Nat} (h1 : Q < 4294967296) (h2 : y0 < 4294967296) : ∃ m : Nat, IntKind.u64.wrap ((Q : Int) * y0) = (m : Int) ∧ m = Q * y0 := by
  have := Nat.mul_le_mul (Nat.le_of_lt_succ h1) (Nat.le_of_lt_succ h2)
  exact ⟨_, u64_mul Q y0 (by omega), rfl⟩
theorem num_pred {Q : Nat} (h : (1 : Int) ≤ (Q : Int)) : Value.int .u64 ((Q : Int) - 1) = .int .u64 ((Q - 1 : Nat) : Int) := by
  have : (Q : Int) - 1 = ((Q - 1 : Nat) : Int) := by omega
  rw [this]
theorem num_add (a b : Nat) : Value.int .u64 ((a : Int) + (b : Int)) = .int .u64 ((a + b : Nat) : Int) := by rw [Int.natCast_add]
theorem ret_u64s {a b c d : Int} (h1 : a = c) (h2 : b = d) : Ending.returned (.tuple #[.int .u64 a, .int .u64 b]) = .returned (.tuple #[.int .u64 c, .int .u64 d]) := by rw [h1, h2]
theorem dig_bools {Q R y0 n1 : Nat} (h : 4294967296 ≤ Q ∨ 4294967296 * R + n1 < Q * y0) (hy0 : y0 < 4294967296) (hn : n1 < 4294967296) (hR : (R : Int) < 4294967296) :
    ∃ m : Nat, ((Q : Int) < 4294967296 → IntKind.u64.wrap ((Q : Int) * y0) = (m : Int)) ∧ (decide ((4294967296 : Int) ≤ (Q : Int)) = true ∨
      (decide ((4294967296 : Int) ≤ (Q : Int)) = false ∧ IntKind.u64.wrap ((Q : Int) * y0) = (m : Int) ∧ decide ((4294967296 : Int) * R + n1 < (m : Int)) = true)) := by
  refine ⟨Q * y0, ?_, ?_⟩
  · intro hq
    exact u64_mul Q y0 (by have := Nat.mul_le_mul (show Q ≤ 4294967295 by omega) (show y0 ≤ 4294967295 by omega); omega)
  · by_cases hq : 4294967296 ≤ Q
    · left; simp only [decide_eq_true_eq]; omega
    · right
      have hl := Nat.mul_le_mul (show Q ≤ 4294967295 by omega) (show y0 ≤ 4294967295 by omega)
      refine ⟨by simp only [decide_eq_false_iff_not]; omega, u64_mul Q y0 (by omega), ?_⟩
      rcases h with h | h
      · omega
      · simp only [decide_eq_true_eq]; omega
theorem dig_bools_no {Q R y0 n1 : Nat} (h : ¬ (4294967296 ≤ Q ∨ 4294967296 * R + n1 < Q * y0)) (hy0 : y0 < 4294967296) (hn : n1 < 4294967296) (hR : (R : Int) < 4294967296) :
    decide ((4294967296 : Int) ≤ (Q : Int)) = false ∧ ∃ m : Nat, IntKind.u64.wrap ((Q : Int) * y0) = (m : Int) ∧ decide ((4294967296 : Int) * R + n1 < (m : Int)) = false := by
  have hl := Nat.mul_le_mul (show Q ≤ 4294967295 by omega) (show y0 ≤ 4294967295 by omega)
  refine ⟨by simp only [decide_eq_false_iff_not]; omega, Q * y0, u64_mul Q y0 (by omega), ?_⟩
  simp only [decide_eq_false_iff_not]; omega
theorem rest_w {u v n1 Q : Nat} (d : DigAt u v n1 Q) (hu : u < v) (hn : n1 < 4294967296) (hv : v < 18446744073709551616) :
    ∃ r : Nat, IntKind.u64.wrap (IntKind.u64.wrap (IntKind.u64.wrap ((u : Int) * 4294967296) + n1) - IntKind.u64.wrap ((Q : Int) * v)) = (r : Int) ∧ Hid (r = (u * 4294967296 + n1) % v) ∧ r < v ∧ Q < 4294967296 := by
  obtain ⟨a, b, c⟩ := d.rest hu hn hv
  exact ⟨_, by simp only [IntKind.wrap_u64]; exact b, rfl, c, a⟩
theorem div_fin {hi lo y s v y1 y0 u n1 n0 q1 r1 q0 r0 : Nat} (h : Setup hi lo y s v y1 y0 u n1 n0) (d1 : DigAt u v n1 q1) (e1 : r1 = (u * 4294967296 + n1) % v)
    (d0 : DigAt r1 v n0 q0) (e0 : r0 = (r1 * 4294967296 + n0) % v) : q1 * 4294967296 + q0 = (hi * 18446744073709551616 + lo) / y ∧ r0 / 2 ^ s = (hi * 18446744073709551616 + lo) % y := by
  obtain ⟨a, b⟩ := two_digits u v n1 n0 (by have := h.ltu; omega)
  unfold DigAt at d1 d0
  rw [← h.quo, ← h.rem, a, b, ← e1, ← d1, ← e0, ← d0]
  exact ⟨rfl, rfl⟩
set_option maxHeartbeats 2000000 in
set_option maxRecDepth 100000 in
theorem div64_big (hi lo y : Nat) (w : World) (h0 : 0 < hi) (hh : hi < y) (hy : y < 18446744073709551616) (hlo : lo < 18446744073709551616) :
    Calls Try.prog 65 #[.int .u64 hi, .int .u64 lo, .int .u64 y] w fun e w' => e = .returned (.tuple #[.int .u64 (((hi * 18446744073709551616 + lo) / y : Nat) : Int), .int .u64 (((hi * 18446744073709551616 + lo) % y : Nat) : Int)]) ∧ w = w' := by
  have h1 : ((y : Int) == 0) = false := by simp; omega
  have h2 : ¬ (y : Int) ≤ hi := by omega
  have h3 : ((hi : Int) == 0) = false := by simp; omega
  go_enter Try.func65, Try.ntmps65
  go_upto_block 0 with (go_at_call 70; refine (lead64 y _ (by omega) hy).mono ?_; rintro e w' ⟨⟨s, rfl, hs, hs1, hs2⟩, rfl⟩; obtain ⟨v, y1, y0, u, n1, n0, n10, e1, e2, e3, e4, e5, e6, e7, hset⟩ := set_up hi lo y s hh hlo hs hs1 hs2; obtain ⟨q, p, r, e8, e9, e10, hp, hq, hr, hy1, hy2, hu, hd⟩ := dig_setup hset.norm hset.lt1 hset.ltu hset.ltv)
  have hn1 := hset.lt1
  have hn0 := hset.lt0
  have hy0 := hset.norm.low
  have hv := hset.ltv
  have hs' : (s : Int) ≤ 63 := by omega
  clear e1 e2 e3 e4 e5 e6 e7 e8 e9 e10 hs1 hs2 h1 h2 h3
  go_cut [15, 16] (fun s15 s16 wx => ∃ Q : Nat, s15 = .int .u64 Q ∧ DigAt u v n1 Q ∧ w = wx)
  case first =>
    go_wp2_with fail
    go_loop [15, 16] (fun s15 s16 => ∃ Q R : Nat, s15 = .int .u64 Q ∧ s16 = .int .u64 R ∧ Dig u v y1 n1 Q R) (fun s15 _ => (intOf s15).toNat)
    case atStart => exact ⟨q, r, rfl, rfl, hd⟩
    case round =>
      obtain ⟨Q, R, rfl, rfl, hdig⟩ := hrel
      have hqi : (Q : Int) ≤ 4294967297 := by have := hdig.2.2.1; omega
      have hR : (R : Int) < 4294967296 := by have := hdig.2.2.2; omega
      by_cases hb : 4294967296 ≤ Q ∨ 4294967296 * R + n1 < Q * y0
      · obtain ⟨g0, -, g1, g2⟩ := dig_test hset.norm hdig hn1 hset.ltu hb
        have hg0 : (1 : Int) ≤ (Q : Int) := by omega
        have ⟨m, hm, ht⟩ := dig_bools hb hy0 hn1 hR
        by_cases hc : R + y1 < 4294967296
        · have g := g1 hc
          have hcd : decide ((4294967296 : Int) ≤ (R : Int) + (y1 : Int)) = false := by simp only [decide_eq_false_iff_not]; omega
          clear g1 g2 hdig hb hc
          rcases ht with ht | ⟨ht, ht'⟩
          all_goals
            go_wp2_with fail
            go_round
            case rel => exact ⟨Q - 1, R + y1, num_pred hg0, num_add R y1, g⟩
            case measure => simp [intOf]; omega
        · have g := g2 (by omega)
          have hcd : decide ((4294967296 : Int) ≤ (R : Int) + (y1 : Int)) = true := by simp only [decide_eq_true_eq]; omega
          clear g1 g2 hdig hb hc
          rcases ht with ht | ⟨ht, ht'⟩
          all_goals
            go_wp2_with fail
            go_meet
            exact ⟨Q - 1, num_pred hg0, g, rfl⟩
      · obtain ⟨ht, m, hm, ht'⟩ := dig_bools_no hb hy0 hn1 hR
        have g : DigAt u v n1 Q := hdig.done hset.norm (by omega) (by omega)
        clear hdig hb
        go_wp2_with fail
        go_meet
        exact ⟨Q, rfl, g, rfl⟩
  case rest =>
    obtain ⟨Q1, rfl, d1, rfl⟩ := hcut
    obtain ⟨r1, e1, hr1, hv1, hQ1⟩ := rest_w d1 hset.ltu hn1 hv
    obtain ⟨q', p', r', e8, e9, e10, hp', hq', hr', -, -, hu', hd'⟩ := dig_setup hset.norm hn0 hv1 hv
    go_upto_block 2 with fail
    clear e1 e8 e9 e10
    go_cut [16, 18] (fun s16 s18 wx => ∃ Q : Nat, s18 = .int .u64 Q ∧ DigAt r1 v n0 Q ∧ w = wx)
    case first =>
      go_wp2_with fail
      go_loop [16, 18] (fun s16 s18 => ∃ Q R : Nat, s18 = .int .u64 Q ∧ s16 = .int .u64 R ∧ Dig r1 v y1 n0 Q R) (fun _ s18 => (intOf s18).toNat)
      case atStart => exact ⟨q', r', rfl, rfl, hd'⟩
      case round =>
        obtain ⟨Q, R, rfl, rfl, hdig⟩ := hrel
        have hqi : (Q : Int) ≤ 4294967297 := by have := hdig.2.2.1; omega
        have hR : (R : Int) < 4294967296 := by have := hdig.2.2.2; omega
        by_cases hb : 4294967296 ≤ Q ∨ 4294967296 * R + n0 < Q * y0
        · obtain ⟨g0, -, g1, g2⟩ := dig_test hset.norm hdig hn0 hv1 hb
          have hg0 : (1 : Int) ≤ (Q : Int) := by omega
          have ⟨m, hm, ht⟩ := dig_bools hb hy0 hn0 hR
          by_cases hc : R + y1 < 4294967296
          · have g := g1 hc
            have hcd : decide ((4294967296 : Int) ≤ (R : Int) + (y1 : Int)) = false := by simp only [decide_eq_false_iff_not]; omega
            clear g1 g2 hdig hb hc
            rcases ht with ht | ⟨ht, ht'⟩
            all_goals
              go_wp2_with fail
              go_round
              case rel => exact ⟨Q - 1, R + y1, num_pred hg0, num_add R y1, g⟩
              case measure => simp [intOf]; omega
          · have g := g2 (by omega)
            have hcd : decide ((4294967296 : Int) ≤ (R : Int) + (y1 : Int)) = true := by simp only [decide_eq_true_eq]; omega
            clear g1 g2 hdig hb hc
            rcases ht with ht | ⟨ht, ht'⟩
            all_goals
              go_wp2_with fail
              go_meet
              exact ⟨Q - 1, num_pred hg0, g, rfl⟩
        · obtain ⟨ht, m, hm, ht'⟩ := dig_bools_no hb hy0 hn0 hR
          have g : DigAt r1 v n0 Q := hdig.done hset.norm (by omega) (by omega)
          clear hdig hb
          go_wp2_with fail
          go_meet
          exact ⟨Q, rfl, g, rfl⟩
    case rest =>
      obtain ⟨Q0, rfl, d0, rfl⟩ := hcut
      obtain ⟨r0, e1, hr0, hv0, hQ0⟩ := rest_w d0 hv1 hn0 hv
      have hQ1' : (Q1 : Int) < 4294967296 := by omega
      have hQ0' : (Q0 : Int) < 4294967296 := by omega
      go_wp2_with fail
      go_ret2
      obtain ⟨f1, f2⟩ := div_fin hset d1 hr1.out d0 hr0.out
      refine ⟨?_, rfl⟩
      rw [← f1, ← f2]
      exact ret_u64s (by omega) (by rw [Int.natCast_ediv, Int.natCast_pow]; rfl)
theorem div64 (hi lo y : Nat) (w : World) (hh : hi < y) (hy : y < 18446744073709551616) (hlo : lo < 18446744073709551616) :
    Calls Try.prog 65 #[.int .u64 hi, .int .u64 lo, .int .u64 y] w fun e w' => e = .returned (.tuple #[.int .u64 (((hi * 18446744073709551616 + lo) / y : Nat) : Int), .int .u64 (((hi * 18446744073709551616 + lo) % y : Nat) : Int)]) ∧ ∃ n, w' = w.drewN n := by
  rcases Nat.eq_zero_or_pos hi with h | h
  · subst h
    rw [Nat.zero_mul, Nat.zero_add]
    exact div64_small lo y w hh hy hlo
  · exact (div64_big hi lo y w h hh hy hlo).mono fun e w' ⟨h1, h2⟩ => ⟨h1, 0, by rw [← h2]; rfl⟩
end Go.Proofs.Yteaadpgpihggeaa

namespace Go.Proofs.Yteaadpgpihggeaa
open Go.RowKit NumA
def hiW (n : Int) : Int := n / 18446744073709551616
def loW (n : Int) : Int := n % 18446744073709551616
theorem hiW_word {n : Int} (h0 : 0 ≤ n) (h1 : n < 340282366920938463463374607431768211456) : Word (hiW n) := by unfold Word hiW; omega
theorem loW_word (n : Int) : Word (loW n) := by unfold Word loW; omega
theorem hiW_loW (n : Int) : hiW n * 18446744073709551616 + loW n = n := by unfold hiW loW; omega
theorem hiW_of {h l : Int} (hl : Word l) : hiW (h * 18446744073709551616 + l) = h := by unfold Word at hl; unfold hiW; omega
theorem loW_of {h l : Int} (hl : Word l) : loW (h * 18446744073709551616 + l) = l := by unfold Word at hl; unfold loW; omega
theorem mul_lt_128 {x y : Int} (hx : Word x) (hy : Word y) : 0 ≤ x * y ∧ x * y < 340282366920938463463374607431768211456 := by
  obtain ⟨a, b⟩ := hx; obtain ⟨c, d⟩ := hy
  refine ⟨Int.mul_nonneg a c, ?_⟩
  have : x * y ≤ 18446744073709551615 * 18446744073709551615 := Int.mul_le_mul (by omega) (by omega) c (by omega)
  omega
abbrev wideV (h l : Int) : Value := .agg #[.int .u64 h, .int .u64 l]
theorem product_c (x y : Int) (w : World) (hx : Word x) (hy : Word y) :
    Calls Try.prog 47 #[.int .u64 x, .int .u64 y] w fun e w' => e = .returned (wideV (hiW (x * y)) (loW (x * y))) ∧ Below w.heap.size w w' := by
  go_enter Try.func47, Try.ntmps47
  go_wp2_with (go_at_call 62; refine (mul64 _ _ hx hy _).mono ?_; rintro e w' ⟨rfl, rfl⟩)
  exact bodyPost_ret (v := wideV (hiW (x * y)) (loW (x * y))) (by simp [results, Try.results47, go_sem, hiW, loW]) rfl ⟨rfl, (Below.refl _ _).alloc (Nat.le_refl _) _⟩
def carryI (b d : Int) : Int := (b + d) / 18446744073709551616
theorem plus_c (a b c d : Int) (w : World) (ha : Word a) (hb : Word b) (hc : Word c) (hd : Word d) (hr : a + c + carryI b d < 18446744073709551616) :
    Calls Try.prog 59 #[wideV a b, wideV c d] w fun e w' => e = .returned (wideV (a + c + carryI b d) (loW (b + d))) ∧ Below w.heap.size w w' := by
  obtain ⟨a1, a2⟩ := ha; obtain ⟨b1, b2⟩ := hb; obtain ⟨c1, c2⟩ := hc; obtain ⟨d1, d2⟩ := hd
  unfold carryI at *
  have k0 : 0 ≤ (b + d) / 18446744073709551616 := by omega
  have k1 : (b + d) / 18446744073709551616 ≤ 1 := by omega
  go_enter Try.func59, Try.ntmps59
  go_wp2_with (first | simp only [add64_0 b d b1 d1] | simp only [add64 a c _ a1 c1 k0 k1])
  refine bodyPost_ret (v := wideV (a + c + (b + d) / 18446744073709551616) (loW (b + d))) ?_ rfl ⟨rfl, ?_⟩
  · have e : (a + c + (b + d) / 18446744073709551616) % 18446744073709551616 = a + c + (b + d) / 18446744073709551616 := by omega
    simp [results, Try.results59, go_sem, loW, e]
  · exact (((Below.refl _ _).alloc (Nat.le_refl _) _).alloc (by simp) _).alloc (by simp; omega) _
def cmpI (a b : Int) : Int := if a < b then -1 else if b < a then 1 else 0
theorem isNaN_c (x : Int) (w : World) : Calls Try.prog 71 #[.int .u64 x] w fun e w' => e = .returned (.bool false) ∧ w = w' := by
  go_enter Try.func71, Try.ntmps71
  go_wp2
  go_ret
  exact ⟨by simp, rfl⟩
theorem compare_c (x y : Int) (w : World) : Calls Try.prog 68 #[.int .u64 x, .int .u64 y] w fun e w' => e = .returned (.int .i64 (cmpI x y)) ∧ w = w' := by
  unfold cmpI
  go_enter Try.func68, Try.ntmps68
  go_wp2_with (go_at_call 71; refine (isNaN_c _ _).mono ?_; rintro e w' ⟨rfl, rfl⟩)
  all_goals (go_ret; exact ⟨by simp [*], rfl⟩)
def orI (x y : Int) : Int := if x = 0 then y else x
theorem or_c (x y : Int) (b : Nat) (w : World) (h0 : w.cell? ⟨b, 0, none⟩ = some (.int .i64 x)) (h1 : w.cell? ⟨b, 1, none⟩ = some (.int .i64 y)) :
    Calls Try.prog 67 #[.slice (some ⟨b, 0, none⟩) 2 2] w fun e w' => e = .returned (.int .i64 (orI x y)) ∧ w = w' := by
  unfold orI
  go_enter Try.func67, Try.ntmps67
  go_wp2
  go_loop [5, 8] (fun _ i => i = .int .i64 0 ∨ (i = .int .i64 1 ∧ x = 0) ∨ (i = .int .i64 2 ∧ x = 0 ∧ y = 0)) (fun _ i => (2 - intOf i).toNat)
  case atStart => exact .inl rfl
  case round =>
    rcases hrel with rfl | ⟨rfl, rfl⟩ | ⟨rfl, rfl, rfl⟩
    · by_cases hx : x = 0
      · subst hx
        go_wp2
        go_round
        case rel => simp
        case measure => simp [intOf]
      · have hxb : (x != 0) = true := by simpa using hx
        go_wp2
        go_ret
        exact ⟨by simp [hx], rfl⟩
    · by_cases hy : y = 0
      · subst hy
        go_wp2
        go_round
        case rel => simp
        case measure => simp [intOf]
      · have hxb : (y != 0) = true := by simpa using hy
        go_wp2
        go_ret
        exact ⟨by simp, rfl⟩
    · go_wp2
      go_ret
      exact ⟨by simp, rfl⟩
set_option maxHeartbeats 1000000 in
theorem wcompare_c (a b c d : Int) (w : World) :
    Calls Try.prog 60 #[wideV a b, wideV c d] w fun e w' => e = .returned (.int .i64 (orI (cmpI a c) (cmpI b d))) ∧ Below w.heap.size w w' := by
  go_enter Try.func60, Try.ntmps60
  go_wp2_with fail
  go_region_held3 (fun w' => w'.cell? ⟨w.heap.size, 0, none⟩ = some (.int .u64 a) ∧ w'.cell? ⟨w.heap.size, 1, none⟩ = some (.int .u64 b) ∧ w'.cell? ⟨w.heap.size + 1, 0, none⟩ = some (.int .u64 c) ∧ w'.cell? ⟨w.heap.size + 1, 1, none⟩ = some (.int .u64 d)) (simp [go_sem, World.cell?_alloc_past])
    (first
      | (go_at_call_of 68 (Value.int .u64 a); refine (compare_c a c _).mono ?_; rintro e w' ⟨rfl, rfl⟩)
      | (go_at_call_of 68 (Value.int .u64 b); refine (compare_c b d _).mono ?_; rintro e w' ⟨rfl, rfl⟩)
      | (go_at_call 67; refine (or_c (cmpI a c) (cmpI b d) (w.heap.size + 2) _ (by simp [go_sem]) (by simp [go_sem])).mono ?_; rintro e w' ⟨rfl, rfl⟩))
  go_wp2
  go_ret
  refine ⟨rfl, ?_⟩
  exact ((((Below.refl _ _).alloc (Nat.le_refl _) _).alloc (by simp) _).alloc (by simp; omega) _).drew
def quoI (h l b : Int) : Int := (h * 18446744073709551616 + l) / b
def remI (h l b : Int) : Int := (h * 18446744073709551616 + l) % b
theorem div64_i (h l b : Int) (w : World) (hh : 0 ≤ h) (hl : Word l) (hb : b < 18446744073709551616) (hlt : h < b) :
    Calls Try.prog 65 #[.int .u64 h, .int .u64 l, .int .u64 b] w fun e w' => e = .returned (.tuple #[.int .u64 (quoI h l b), .int .u64 (remI h l b)]) ∧ ∃ n, w' = w.drewN n := by
  obtain ⟨l1, l2⟩ := hl
  obtain ⟨h, rfl⟩ := Int.eq_ofNat_of_zero_le hh
  obtain ⟨l, rfl⟩ := Int.eq_ofNat_of_zero_le l1
  obtain ⟨b, rfl⟩ := Int.eq_ofNat_of_zero_le (show 0 ≤ b by omega)
  have e1 : quoI (h : Int) l b = (((h * 18446744073709551616 + l) / b : Nat) : Int) := by unfold quoI; rw [Int.natCast_ediv, Int.natCast_add, Int.natCast_mul]; rfl
  have e2 : remI (h : Int) l b = (((h * 18446744073709551616 + l) % b : Nat) : Int) := by unfold remI; rw [Int.natCast_emod, Int.natCast_add, Int.natCast_mul]; rfl
  rw [e1, e2]
  exact div64 h l b w (by omega) (by omega) (by omega)
theorem over_yes (h l b : Int) (w : World) (hh : 0 ≤ h) (hl : Word l) (hb : b < 18446744073709551616) (hlt : h < b) :
    Calls Try.prog 58 #[wideV h l, .int .u64 b] w fun e w' => e = .returned (.tuple #[.int .u64 (quoI h l b), .int .u64 (remI h l b), .bool true]) ∧ Below w.heap.size w w' := by
  have hd : decide ((b : Int) ≤ (h : Int)) = false := by simp only [decide_eq_false_iff_not]; omega
  go_enter Try.func58, Try.ntmps58
  go_wp2_with (go_at_call 65; refine (div64_i h l b _ hh hl hb hlt).mono ?_; rintro e w' ⟨rfl, n, rfl⟩)
  go_ret3
  exact ⟨rfl, ((Below.refl _ _).alloc (Nat.le_refl _) _).trans ⟨rfl, rfl, rfl, Nat.le_refl _, fun _ _ => rfl⟩⟩
theorem over_no (h l b : Int) (w : World) (hlt : b ≤ h) :
    Calls Try.prog 58 #[wideV h l, .int .u64 b] w fun e w' => e = .returned (.tuple #[.int .u64 0, .int .u64 0, .bool false]) ∧ Below w.heap.size w w' := by
  have hd : decide ((b : Int) ≤ (h : Int)) = true := by simp only [decide_eq_true_eq]; omega
  go_enter Try.func58, Try.ntmps58
  go_wp2_with fail
  go_ret3
  exact ⟨rfl, (Below.refl _ _).alloc (Nat.le_refl _) _⟩
end Go.Proofs.Yteaadpgpihggeaa

namespace Go.Proofs.Yteaadpgpihggeaa
open Go.RowKit NumA
def absI (x : Int) : Int := if x < 0 then -x else x
theorem absI_word {x : Int} (h0 : -9223372036854775808 ≤ x) (h1 : x ≤ 9223372036854775807) : Word (absI x) := by unfold Word absI; split <;> omega
theorem ret_u64 {a b : Int} (h : a = b) : Ending.returned (.int .u64 a) = .returned (.int .u64 b) := by rw [h]
theorem ret_i64 {a b : Int} (h : a = b) : Ending.returned (.int .i64 a) = .returned (.int .i64 b) := by rw [h]
theorem size_c (x : Int) (w : World) (h0 : -9223372036854775808 ≤ x) (h1 : x ≤ 9223372036854775807) :
    Calls Try.prog 48 #[.int .i64 x] w fun e w' => e = .returned (.int .u64 (absI x)) ∧ w = w' := by
  by_cases hx : x < 0
  · go_enter Try.func48, Try.ntmps48
    go_wp2
    go_ret
    exact ⟨ret_u64 (by simp only [IntKind.wrap_u64]; unfold absI; rw [if_pos (by omega)]; omega), rfl⟩
  · go_enter Try.func48, Try.ntmps48
    go_wp2
    go_ret
    exact ⟨ret_u64 (by unfold absI; rw [if_neg (by omega)]), rfl⟩
theorem sizeInt_c (x : Int) (w : World) (h0 : -9223372036854775808 ≤ x) (h1 : x ≤ 9223372036854775807) :
    Calls Try.prog 49 #[.int .i64 x] w fun e w' => e = .returned (.int .u64 (absI x)) ∧ w = w' := by
  by_cases hx : x < 0
  · go_enter Try.func49, Try.ntmps49
    go_wp2
    go_ret
    exact ⟨ret_u64 (by simp only [IntKind.wrap_u64]; unfold absI; rw [if_pos (by omega)]; omega), rfl⟩
  · go_enter Try.func49, Try.ntmps49
    go_wp2
    go_ret
    exact ⟨ret_u64 (by unfold absI; rw [if_neg (by omega)]), rfl⟩
def sgn (n : Int) (neg : Bool) : Int := if neg then -n else n
theorem signed_yes (n : Int) (neg : Bool) (w : World) (h0 : 0 ≤ n) (h1 : n ≤ 70368744177664) :
    Calls Try.prog 61 #[.int .u64 n, .bool neg] w fun e w' => e = .returned (.int .i64 (sgn n neg)) ∧ w = w' := by
  have hd : decide (n ≤ 70368744177664) = true := by simpa using h1
  cases neg
  all_goals
    go_enter Try.func61, Try.ntmps61
    go_wp2_with (go_at_call 45; refine (need_yes _ _).mono ?_; rintro e w' ⟨rfl, rfl⟩)
    go_ret
    exact ⟨rfl, rfl⟩
theorem signed_no (n : Int) (neg : Bool) (w : World) (h1 : 70368744177664 < n) :
    Calls Try.prog 61 #[.int .u64 n, .bool neg] w fun e w' => e = .panicked (fixPanic 4) ∧ w = w' := by
  have hd : decide (n ≤ 70368744177664) = false := by simp only [decide_eq_false_iff_not]; omega
  go_enter Try.func61, Try.ntmps61
  go_wp2_with (go_at_call 45; refine (need_no _ _).mono ?_; rintro e w' ⟨rfl, rfl⟩)
  exact ⟨rfl, rfl, rfl⟩
def rndB (how half : Int) (neg : Bool) : Bool := if how = 0 then false else if how = 1 then neg else if how = 2 then !neg else decide (0 ≤ half)
theorem way0 (half : Int) (neg : Bool) (w : World) : Calls Try.prog 54 #[.int .i64 half, .bool neg] w fun e w' => e = .returned (.bool (rndB 0 half neg)) ∧ w = w' := by
  go_enter Try.func54, Try.ntmps54
  go_wp2
  go_ret
  exact ⟨rfl, rfl⟩
theorem way1 (half : Int) (neg : Bool) (w : World) : Calls Try.prog 55 #[.int .i64 half, .bool neg] w fun e w' => e = .returned (.bool (rndB 1 half neg)) ∧ w = w' := by
  go_enter Try.func55, Try.ntmps55
  go_wp2
  go_ret
  exact ⟨rfl, rfl⟩
theorem way2 (half : Int) (neg : Bool) (w : World) : Calls Try.prog 56 #[.int .i64 half, .bool neg] w fun e w' => e = .returned (.bool (rndB 2 half neg)) ∧ w = w' := by
  cases neg
  all_goals
    go_enter Try.func56, Try.ntmps56
    go_wp2
    go_ret
    exact ⟨rfl, rfl⟩
theorem way3 (half : Int) (neg : Bool) (w : World) : Calls Try.prog 57 #[.int .i64 half, .bool neg] w fun e w' => e = .returned (.bool (rndB 3 half neg)) ∧ w = w' := by
  go_enter Try.func57, Try.ntmps57
  go_wp2
  go_ret
  exact ⟨rfl, rfl⟩
def wayF (how : Int) : FuncId := if how = 0 then 54 else if how = 1 then 55 else if how = 2 then 56 else 57
def wayV (how : Int) : Value := .func (.func (wayF how)) #[] #[]
theorem wayV_0 : wayV 0 = .func (.func 54) #[] #[] := rfl
theorem wayV_1 : wayV 1 = .func (.func 55) #[] #[] := rfl
theorem wayV_2 : wayV 2 = .func (.func 56) #[] #[] := rfl
theorem wayV_3 : wayV 3 = .func (.func 57) #[] #[] := rfl
def Way (how : Int) : Prop := 0 ≤ how ∧ how ≤ 3
theorem Way.cases {how : Int} (h : Way how) : how = 0 ∨ how = 1 ∨ how = 2 ∨ how = 3 := by unfold Way at h; omega
theorem way_c {how : Int} (hw : Way how) (half : Int) (neg : Bool) (w : World) : Calls Try.prog (wayF how) #[.int .i64 half, .bool neg] w fun e w' => e = .returned (.bool (rndB how half neg)) ∧ w = w' := by
  rcases hw.cases with rfl | rfl | rfl | rfl
  · exact way0 half neg w
  · exact way1 half neg w
  · exact way2 half neg w
  · exact way3 half neg w
theorem ways_yes (how : Int) (w : World) (h : Way how) : Calls Try.prog 44 #[.int .i64 how] w fun e w' => e = .returned (wayV how) ∧ w = w' := by
  rcases h.cases with rfl | rfl | rfl | rfl
  all_goals
    go_enter Try.func44, Try.ntmps44
    go_wp2
    go_ret
    exact ⟨rfl, rfl⟩
theorem ways_no (how : Int) (w : World) (h : ¬ Way how) : Calls Try.prog 44 #[.int .i64 how] w fun e w' => e = .panicked (fixPanic 2) ∧ w = w' := by
  unfold Way at h
  have h0 : (how == 0) = false := by simp only [beq_eq_false_iff_ne]; omega
  have h1 : (how == 1) = false := by simp only [beq_eq_false_iff_ne]; omega
  have h2 : (how == 2) = false := by simp only [beq_eq_false_iff_ne]; omega
  have h3 : (how == 3) = false := by simp only [beq_eq_false_iff_ne]; omega
  clear h
  go_enter Try.func44, Try.ntmps44
  go_wp2
  exact ⟨rfl, rfl, rfl⟩
def okFix (x : Int) : Prop := -70368744177664 ≤ x ∧ x ≤ 70368744177664
instance (x : Int) : Decidable (okFix x) := inferInstanceAs (Decidable (_ ∧ _))
theorem right_yes (b n : Nat) (x : Nat → Int) (w : World) (hn : n ≤ 8) (hc : ∀ k, k < n → w.cell? ⟨b, k, none⟩ = some (.int .i64 (x k))) (hx : ∀ k, k < n → okFix (x k)) :
    Calls Try.prog 43 #[.slice (some ⟨b, 0, none⟩) n n] w fun e w' => e = .returned (.tuple #[]) ∧ w = w' := by
  have HX := hx
  go_enter Try.func43, Try.ntmps43
  go_wp2_with fail
  go_loop [3, 6] (fun _ i => ∃ k : Nat, k ≤ n ∧ i = .int .i64 k) (fun _ i => n - (intOf i).toNat)
  case atStart => exact ⟨0, Nat.zero_le _, rfl⟩
  case round =>
    obtain ⟨k, hk, rfl⟩ := hrel
    by_cases hlt : k < n
    · have hck := hc k hlt
      obtain ⟨g1, g2⟩ := hx k hlt
      have g1' : decide ((-70368744177664 : Int) ≤ x k) = true := by simpa using g1
      have g2' : decide (x k ≤ (70368744177664 : Int)) = true := by simpa using g2
      clear hc hx HX
      go_wp2_with (go_at_call 45; refine (need_yes _ _).mono ?_; rintro e w' ⟨rfl, rfl⟩)
      go_round
      case rel => exact ⟨k + 1, by omega, by go_num⟩
      case measure => simp [intOf]; omega
    · clear hc hx HX
      go_wp2_with fail
      go_end0
      exact ⟨rfl, rfl⟩
theorem right_no (b n : Nat) (x : Nat → Int) (w : World) (hn : n ≤ 8) (hc : ∀ k, k < n → w.cell? ⟨b, k, none⟩ = some (.int .i64 (x k))) (hx : ∃ k, k < n ∧ ¬ okFix (x k)) :
    Calls Try.prog 43 #[.slice (some ⟨b, 0, none⟩) n n] w fun e w' => e = .panicked (fixPanic 2) ∧ w = w' := by
  obtain ⟨m, hm, hxm⟩ := hx
  go_enter Try.func43, Try.ntmps43
  go_wp2_with fail
  go_loop [3, 6] (fun _ i => ∃ k : Nat, k ≤ m ∧ i = .int .i64 k) (fun _ i => n - (intOf i).toNat)
  case atStart => exact ⟨0, Nat.zero_le _, rfl⟩
  case round =>
    obtain ⟨k, hk, rfl⟩ := hrel
    have hlt : k < n := by omega
    have hck := hc k hlt
    by_cases hok : okFix (x k)
    · have hkm : k < m := by
        rcases Nat.lt_or_ge k m with h | h
        · exact h
        · have e : k = m := by omega
          rw [e] at hok; exact absurd hok hxm
      obtain ⟨g1, g2⟩ := hok
      have g1' : decide ((-70368744177664 : Int) ≤ x k) = true := by simpa using g1
      have g2' : decide (x k ≤ (70368744177664 : Int)) = true := by simpa using g2
      clear hc hxm
      go_wp2_with (go_at_call 45; refine (need_yes _ _).mono ?_; rintro e w' ⟨rfl, rfl⟩)
      go_round
      case rel => exact ⟨k + 1, by omega, by go_num⟩
      case measure => simp [intOf]; omega
    · clear hc hxm
      unfold okFix at hok
      by_cases g1 : (-70368744177664 : Int) ≤ x k
      · have g2' : decide (x k ≤ (70368744177664 : Int)) = false := by simp only [decide_eq_false_iff_not]; omega
        have g1' : decide ((-70368744177664 : Int) ≤ x k) = true := by simpa using g1
        clear hok
        go_wp2_with (go_at_call 45; refine (need_no _ _).mono ?_; rintro e w' ⟨rfl, rfl⟩)
        exact ⟨rfl, rfl, rfl⟩
      · have g1' : decide ((-70368744177664 : Int) ≤ x k) = false := by simp only [decide_eq_false_iff_not]; exact g1
        clear hok
        go_wp2_with (go_at_call 45; refine (need_no _ _).mono ?_; rintro e w' ⟨rfl, rfl⟩)
        exact ⟨rfl, rfl, rfl⟩
end Go.Proofs.Yteaadpgpihggeaa

namespace Go.Proofs.Yteaadpgpihggeaa
open Go.RowKit NumA
def endFix : Except Int Int → Ending
  | .ok v => .returned (.int .i64 v)
  | .error e => .panicked (fixPanic e)
def halfI (r den : Int) : Int := orI (cmpI (carryI r r) 0) (cmpI (loW (r + r)) den)
theorem halfI_eq {r den : Int} (hr : Word r) (hd : Word den) : halfI r den = cmpI (r + r) den := by
  unfold Word at hr hd
  unfold halfI orI cmpI loW carryI
  repeat' split
  all_goals omega
def qUp (h l den : Int) (neg : Bool) (how : Int) : Int :=
  if 0 < remI h l den ∧ rndB how (halfI (remI h l den) den) neg = true then (quoI h l den + 1) % 18446744073709551616 else quoI h l den
def quot (h l den : Int) (neg : Bool) (how : Int) : Except Int Int :=
  if den ≤ h then .error 4 else if qUp h l den neg how ≤ 70368744177664 then .ok (sgn (qUp h l den neg how) neg) else .error 4
theorem quoI_word {h l den : Int} (hh : Word h) (hl : Word l) (hd : Word den) (hlt : h < den) : Word (quoI h l den) ∧ Word (remI h l den) := by
  unfold Word at *
  unfold quoI remI
  have h1 : (h * 18446744073709551616 + l) / den < 18446744073709551616 := by
    apply Int.ediv_lt_of_lt_mul (by omega)
    have : (h + 1) * 18446744073709551616 ≤ den * 18446744073709551616 := Int.mul_le_mul_of_nonneg_right (by omega) (by omega)
    rw [Int.mul_comm 18446744073709551616]
    omega
  have h0 : 0 ≤ (h * 18446744073709551616 + l) / den := Int.ediv_nonneg (by omega) (by omega)
  have h2 := Int.emod_nonneg (h * 18446744073709551616 + l) (show den ≠ 0 by omega)
  have h3 := Int.emod_lt_of_pos (h * 18446744073709551616 + l) (show 0 < den by omega)
  omega
theorem quotient_none (h l den : Int) (neg : Bool) (f : Value) (w : World) (hlt : den ≤ h) :
    Calls Try.prog 46 #[wideV h l, .int .u64 den, .bool neg, f] w fun e w' => e = .panicked (fixPanic 4) ∧ Below w.heap.size w w' := by
  go_enter Try.func46, Try.ntmps46
  go_wp2_with (first
    | (go_at_call 58; refine (over_no h l den _ hlt).mono ?_; rintro e w1 ⟨rfl, hb1⟩)
    | (go_at_call 45; refine (need_no _ _).mono ?_; rintro e w' ⟨rfl, rfl⟩))
  exact ⟨rfl, rfl, ((Below.refl _ _).alloc (Nat.le_refl _) _).trans (hb1.mono (by simp))⟩
set_option maxHeartbeats 1000000 in
theorem quotient_rest0 (h l den : Int) (neg : Bool) (f : Value) (w : World) (hh : Word h) (hl : Word l) (hd : Word den) (hlt : h < den) (hr : remI h l den = 0) :
    Calls Try.prog 46 #[wideV h l, .int .u64 den, .bool neg, f] w fun e w' => e = endFix (if quoI h l den ≤ 70368744177664 then .ok (sgn (quoI h l den) neg) else .error 4) ∧ Below w.heap.size w w' := by
  obtain ⟨⟨q0, q1⟩, -⟩ := quoI_word hh hl hd hlt
  by_cases hq : quoI h l den ≤ 70368744177664
  · rw [if_pos hq]
    go_enter Try.func46, Try.ntmps46
    go_wp2_with (first
      | (go_at_call 58; refine (over_yes h l den _ hh.1 hl hd.2 hlt).mono ?_; rintro e w1 ⟨rfl, hb1⟩)
      | (go_at_call 45; refine (need_yes _ _).mono ?_; rintro e w' ⟨rfl, rfl⟩)
      | (go_at_call 61; refine (signed_yes _ _ _ q0 hq).mono ?_; rintro e w' ⟨rfl, rfl⟩))
    go_ret
    exact ⟨rfl, ((Below.refl _ _).alloc (Nat.le_refl _) _).trans (hb1.mono (by simp))⟩
  · rw [if_neg hq]
    go_enter Try.func46, Try.ntmps46
    go_wp2_with (first
      | (go_at_call 58; refine (over_yes h l den _ hh.1 hl hd.2 hlt).mono ?_; rintro e w1 ⟨rfl, hb1⟩)
      | (go_at_call 45; refine (need_yes _ _).mono ?_; rintro e w' ⟨rfl, rfl⟩)
      | (go_at_call 61; refine (signed_no _ _ _ (by omega)).mono ?_; rintro e w' ⟨rfl, rfl⟩))
    exact ⟨rfl, rfl, ((Below.refl _ _).alloc (Nat.le_refl _) _).trans (hb1.mono (by simp))⟩
set_option maxHeartbeats 2000000 in
theorem quotient_rest (h l den : Int) (neg : Bool) (how : Int) (w : World) (hw : Way how) (hh : Word h) (hl : Word l) (hd : Word den) (hlt : h < den) (hr : 0 < remI h l den) (b : Bool) (hrn' : rndB how (halfI (remI h l den) den) neg = b) :
    Calls Try.prog 46 #[wideV h l, .int .u64 den, .bool neg, wayV how] w fun e w' => e = endFix (if (if b then (quoI h l den + 1) % 18446744073709551616 else quoI h l den) ≤ 70368744177664 then .ok (sgn (if b then (quoI h l den + 1) % 18446744073709551616 else quoI h l den) neg) else .error 4) ∧ Below w.heap.size w w' := by
  obtain ⟨⟨q0, q1⟩, hrw⟩ := quoI_word hh hl hd hlt
  have hz : Word 0 := ⟨by omega, by omega⟩
  have hroom : Hid (0 + 0 + carryI (remI h l den) (remI h l den) < 18446744073709551616) := by obtain ⟨_, _⟩ := hrw; show _ < _; unfold carryI; omega
  have hhalf : Hid (orI (cmpI (carryI (remI h l den) (remI h l den)) 0) (cmpI (loW (remI h l den + remI h l den)) den) = halfI (remI h l den) den) := rfl
  have hrn : Hid (rndB how (halfI (remI h l den) den) neg = b) := hrn'
  clear hrn'
  have hwrap : IntKind.u64.wrap (quoI h l den + 1) = (quoI h l den + 1) % 18446744073709551616 := by rw [IntKind.wrap_u64]
  generalize hQ : (quoI h l den + 1) % 18446744073709551616 = q' at *
  have q2 : 0 ≤ q' := by omega
  clear hQ
  rcases hw.cases with rfl | rfl | rfl | rfl
  all_goals
    first | rw [wayV_0] | rw [wayV_1] | rw [wayV_2] | rw [wayV_3]
    cases b
    · by_cases hq : (quoI h l den) ≤ 70368744177664
      · have hfin : (if (if false = true then q' else quoI h l den) ≤ 70368744177664 then Except.ok (sgn (if false = true then q' else quoI h l den) neg) else Except.error 4) = (Except.ok (sgn (quoI h l den) neg) : Except Int Int) := by simp [hq]
        rw [hfin]
        clear hfin
        go_enter Try.func46, Try.ntmps46
        go_wp2_with (first
        | (go_at_call 58; refine (over_yes h l den _ hh.1 hl hd.2 hlt).mono ?_; rintro e w1 ⟨rfl, hb1⟩)
        | (go_at_call 45; refine (need_yes _ _).mono ?_; rintro e w' ⟨rfl, rfl⟩)
        | (go_at_call 59; refine (plus_c 0 (remI h l den) 0 (remI h l den) _ hz hrw hz hrw hroom.out).mono ?_; rintro e w2 ⟨rfl, hb2⟩)
        | (go_at_call 60; refine (wcompare_c _ _ _ _ _).mono ?_; rintro e w3 ⟨rfl, hb3⟩; rw [hhalf.out])
        | (go_at_call 54; refine (way0 _ _ _).mono ?_; rintro e w' ⟨rfl, rfl⟩; rw [hrn.out])
        | (go_at_call 55; refine (way1 _ _ _).mono ?_; rintro e w' ⟨rfl, rfl⟩; rw [hrn.out])
        | (go_at_call 56; refine (way2 _ _ _).mono ?_; rintro e w' ⟨rfl, rfl⟩; rw [hrn.out])
        | (go_at_call 57; refine (way3 _ _ _).mono ?_; rintro e w' ⟨rfl, rfl⟩; rw [hrn.out])
        | (go_at_call 61; refine (signed_yes _ _ _ q0 hq).mono ?_; rintro e w' ⟨rfl, rfl⟩))
        go_ret
        exact ⟨rfl, (((Below.refl _ _).alloc (Nat.le_refl _) _).trans (hb1.mono (by simp))).trans ((hb2.mono (by have := hb1.size; simp at this; omega)).trans (hb3.mono (by have := hb1.size; have := hb2.size; simp at *; omega)))⟩
      · have hfin : (if (if false = true then q' else quoI h l den) ≤ 70368744177664 then Except.ok (sgn (if false = true then q' else quoI h l den) neg) else Except.error 4) = (Except.error 4 : Except Int Int) := by simp [hq]
        rw [hfin]
        clear hfin
        go_enter Try.func46, Try.ntmps46
        go_wp2_with (first
        | (go_at_call 58; refine (over_yes h l den _ hh.1 hl hd.2 hlt).mono ?_; rintro e w1 ⟨rfl, hb1⟩)
        | (go_at_call 45; refine (need_yes _ _).mono ?_; rintro e w' ⟨rfl, rfl⟩)
        | (go_at_call 59; refine (plus_c 0 (remI h l den) 0 (remI h l den) _ hz hrw hz hrw hroom.out).mono ?_; rintro e w2 ⟨rfl, hb2⟩)
        | (go_at_call 60; refine (wcompare_c _ _ _ _ _).mono ?_; rintro e w3 ⟨rfl, hb3⟩; rw [hhalf.out])
        | (go_at_call 54; refine (way0 _ _ _).mono ?_; rintro e w' ⟨rfl, rfl⟩; rw [hrn.out])
        | (go_at_call 55; refine (way1 _ _ _).mono ?_; rintro e w' ⟨rfl, rfl⟩; rw [hrn.out])
        | (go_at_call 56; refine (way2 _ _ _).mono ?_; rintro e w' ⟨rfl, rfl⟩; rw [hrn.out])
        | (go_at_call 57; refine (way3 _ _ _).mono ?_; rintro e w' ⟨rfl, rfl⟩; rw [hrn.out])
        | (go_at_call 61; refine (signed_no _ _ _ (by omega)).mono ?_; rintro e w' ⟨rfl, rfl⟩))
        exact ⟨rfl, rfl, (((Below.refl _ _).alloc (Nat.le_refl _) _).trans (hb1.mono (by simp))).trans ((hb2.mono (by have := hb1.size; simp at this; omega)).trans (hb3.mono (by have := hb1.size; have := hb2.size; simp at *; omega)))⟩
    · by_cases hq : q' ≤ 70368744177664
      · have hfin : (if (if true = true then q' else quoI h l den) ≤ 70368744177664 then Except.ok (sgn (if true = true then q' else quoI h l den) neg) else Except.error 4) = (Except.ok (sgn q' neg) : Except Int Int) := by simp [hq]
        rw [hfin]
        clear hfin
        go_enter Try.func46, Try.ntmps46
        go_wp2_with (first
        | (go_at_call 58; refine (over_yes h l den _ hh.1 hl hd.2 hlt).mono ?_; rintro e w1 ⟨rfl, hb1⟩)
        | (go_at_call 45; refine (need_yes _ _).mono ?_; rintro e w' ⟨rfl, rfl⟩)
        | (go_at_call 59; refine (plus_c 0 (remI h l den) 0 (remI h l den) _ hz hrw hz hrw hroom.out).mono ?_; rintro e w2 ⟨rfl, hb2⟩)
        | (go_at_call 60; refine (wcompare_c _ _ _ _ _).mono ?_; rintro e w3 ⟨rfl, hb3⟩; rw [hhalf.out])
        | (go_at_call 54; refine (way0 _ _ _).mono ?_; rintro e w' ⟨rfl, rfl⟩; rw [hrn.out])
        | (go_at_call 55; refine (way1 _ _ _).mono ?_; rintro e w' ⟨rfl, rfl⟩; rw [hrn.out])
        | (go_at_call 56; refine (way2 _ _ _).mono ?_; rintro e w' ⟨rfl, rfl⟩; rw [hrn.out])
        | (go_at_call 57; refine (way3 _ _ _).mono ?_; rintro e w' ⟨rfl, rfl⟩; rw [hrn.out])
        | (go_at_call 61; refine (signed_yes _ _ _ q2 hq).mono ?_; rintro e w' ⟨rfl, rfl⟩))
        go_ret
        exact ⟨rfl, (((Below.refl _ _).alloc (Nat.le_refl _) _).trans (hb1.mono (by simp))).trans ((hb2.mono (by have := hb1.size; simp at this; omega)).trans (hb3.mono (by have := hb1.size; have := hb2.size; simp at *; omega)))⟩
      · have hfin : (if (if true = true then q' else quoI h l den) ≤ 70368744177664 then Except.ok (sgn (if true = true then q' else quoI h l den) neg) else Except.error 4) = (Except.error 4 : Except Int Int) := by simp [hq]
        rw [hfin]
        clear hfin
        go_enter Try.func46, Try.ntmps46
        go_wp2_with (first
        | (go_at_call 58; refine (over_yes h l den _ hh.1 hl hd.2 hlt).mono ?_; rintro e w1 ⟨rfl, hb1⟩)
        | (go_at_call 45; refine (need_yes _ _).mono ?_; rintro e w' ⟨rfl, rfl⟩)
        | (go_at_call 59; refine (plus_c 0 (remI h l den) 0 (remI h l den) _ hz hrw hz hrw hroom.out).mono ?_; rintro e w2 ⟨rfl, hb2⟩)
        | (go_at_call 60; refine (wcompare_c _ _ _ _ _).mono ?_; rintro e w3 ⟨rfl, hb3⟩; rw [hhalf.out])
        | (go_at_call 54; refine (way0 _ _ _).mono ?_; rintro e w' ⟨rfl, rfl⟩; rw [hrn.out])
        | (go_at_call 55; refine (way1 _ _ _).mono ?_; rintro e w' ⟨rfl, rfl⟩; rw [hrn.out])
        | (go_at_call 56; refine (way2 _ _ _).mono ?_; rintro e w' ⟨rfl, rfl⟩; rw [hrn.out])
        | (go_at_call 57; refine (way3 _ _ _).mono ?_; rintro e w' ⟨rfl, rfl⟩; rw [hrn.out])
        | (go_at_call 61; refine (signed_no _ _ _ (by omega)).mono ?_; rintro e w' ⟨rfl, rfl⟩))
        exact ⟨rfl, rfl, (((Below.refl _ _).alloc (Nat.le_refl _) _).trans (hb1.mono (by simp))).trans ((hb2.mono (by have := hb1.size; simp at this; omega)).trans (hb3.mono (by have := hb1.size; have := hb2.size; simp at *; omega)))⟩
end Go.Proofs.Yteaadpgpihggeaa

namespace Go.Proofs.Yteaadpgpihggeaa
open Go.RowKit NumA
theorem quotient_c (h l den : Int) (neg : Bool) (how : Int) (w : World) (hw : Way how) (hh : Word h) (hl : Word l) (hd : Word den) :
    Calls Try.prog 46 #[wideV h l, .int .u64 den, .bool neg, wayV how] w fun e w' => e = endFix (quot h l den neg how) ∧ Below w.heap.size w w' := by
  by_cases hlt : den ≤ h
  · refine (quotient_none h l den neg _ w hlt).mono fun e w' ⟨h1, h2⟩ => ⟨?_, h2⟩
    rw [h1, quot, if_pos hlt]; rfl
  · have hlt' : h < den := by omega
    have hrw := (quoI_word hh hl hd hlt').2.1
    by_cases hr : remI h l den = 0
    · refine (quotient_rest0 h l den neg _ w hh hl hd hlt' hr).mono fun e w' ⟨h1, h2⟩ => ⟨?_, h2⟩
      have hq : qUp h l den neg how = quoI h l den := by unfold qUp; rw [if_neg (by omega)]
      rw [h1, quot, if_neg hlt, hq]
    · refine (quotient_rest h l den neg how w hw hh hl hd hlt' (by omega) _ rfl).mono fun e w' ⟨h1, h2⟩ => ⟨?_, h2⟩
      have hq : qUp h l den neg how = if rndB how (halfI (remI h l den) den) neg = true then (quoI h l den + 1) % 18446744073709551616 else quoI h l den := by
        unfold qUp
        cases hb : rndB how (halfI (remI h l den) den) neg
        · rw [if_neg (by simp), if_neg (by simp)]
        · rw [if_pos ⟨by omega, rfl⟩, if_pos rfl]
      rw [h1, quot, if_neg hlt, hq]
theorem bcell {W w1 : World} {B : Nat} (hb : Below B W w1) : (∀ b o, b < B → w1.cell? ⟨b, o, none⟩ = W.cell? ⟨b, o, none⟩) ∧ (∀ b o, b < B → w1.frozen? ⟨b, o, none⟩ = W.frozen? ⟨b, o, none⟩) :=
  ⟨fun b o h => hb.cell (p := ⟨b, o, none⟩) h, fun b o h => hb.frozen (p := ⟨b, o, none⟩) h⟩
theorem cell_set {w : World} {a : Addr} {u : Value} (v : Value) (h : w.cell? a = some u) : (w.setCell a v).cell? a = some v := World.cell?_setCell_same w a v h
theorem cell_set_ne {w : World} {a b : Addr} (v : Value) (h : a ≠ b) : (w.setCell a v).cell? b = w.cell? b := World.cell?_setCell_other w a b v h
theorem assert_yes (c : Int) (w : World) : (Instr.typeAssert (.iface 106 (.agg #[.int .i64 c])) 20 106 true).run Try.prog w = .ok (.tuple #[.agg #[.int .i64 c], .bool true]) w := by kernel_rfl
theorem assert_nil (w : World) : (Instr.typeAssert .nilIface 20 106 true).run Try.prog w = .ok (.tuple #[.agg #[.int .i64 0], .bool false]) w := by kernel_rfl
theorem tried1_panic (b : Nat) (x y c : Int) (w : World) (hp : w.cell? ⟨b, 0, none⟩ = some (.int .i64 x)) (hq : w.cell? ⟨b + 1, 0, none⟩ = some (.int .i64 y)) (fp : w.frozen? ⟨b, 0, none⟩ = false) (fq : w.frozen? ⟨b + 1, 0, none⟩ = false) (hqb : b + 1 < w.heap.size) :
    CallsD Try.prog 53 #[.pointer (some ⟨b, 0, none⟩), .pointer (some ⟨b + 1, 0, none⟩)] (.panicking (fixPanic c)) w fun e u' w' =>
      e = .returned (.tuple #[]) ∧ u' = .panicking [{ v := .iface 106 (.agg #[.int .i64 c]), recovered := true }] ∧ w'.cell? ⟨b, 0, none⟩ = some (.int .i64 0) ∧ w'.cell? ⟨b + 1, 0, none⟩ = some (.int .i64 c) ∧ Below b w w' := by
  refine callsD_of_wpS Try.func53 rfl fun c₀ cs hu => ?_
  apply wpS_seq
  apply wpS_region
  simp [wpOpsS, go_sem, recoverD, hu, fixPanic, Try.ntmps53, Exit.thenS, Array.replicate, List.replicate]
  refine wpS_of_wp ?_
  clear hu
  have hta := fun w => assert_yes c w
  have ha : ∀ o, Below w.heap.size w (w.alloc o) := fun o => (Below.refl _ _).alloc (Nat.le_refl _) o
  have hp' : ∀ o, (w.alloc o).cell? ⟨b, 0, none⟩ = some (.int .i64 x) := fun o => ((ha o).cell (p := ⟨b, 0, none⟩) (by simp; omega)).trans hp
  have hq' : ∀ o, (w.alloc o).cell? ⟨b + 1, 0, none⟩ = some (.int .i64 y) := fun o => ((ha o).cell (p := ⟨b + 1, 0, none⟩) (by simp; omega)).trans hq
  have fp' : ∀ o, (w.alloc o).frozen? ⟨b, 0, none⟩ = false := fun o => ((ha o).frozen (p := ⟨b, 0, none⟩) (by simp; omega)).trans fp
  have fq' : ∀ o, (w.alloc o).frozen? ⟨b + 1, 0, none⟩ = false := fun o => ((ha o).frozen (p := ⟨b + 1, 0, none⟩) (by simp; omega)).trans fq
  clear ha
  go_wp2
  go_region
  all_goals
    go_big_unhide
    simp [bodyPostS, results, Try.results53, go_sem]
    refine ⟨cell_set _ (hp' _), cell_set (u := .int .i64 y) _ ((cell_set_ne _ (by simp)).trans (hq' _)), ?_⟩
    exact ((((Below.refl b w).alloc (by omega) _).setCell (p := ⟨b, 0, none⟩) (Nat.le_refl _) _).setCell (p := ⟨b + 1, 0, none⟩) (by simp) _).drew
theorem tried1_idle (b : Nat) (w : World) (hqb : b + 1 < w.heap.size) :
    CallsD Try.prog 53 #[.pointer (some ⟨b, 0, none⟩), .pointer (some ⟨b + 1, 0, none⟩)] .returning w fun e u' w' =>
      e = .returned (.tuple #[]) ∧ u' = .returning ∧ Below w.heap.size w w' := by
  refine callsD_of_wpS Try.func53 rfl fun c₀ cs hu => ?_
  apply wpS_seq
  apply wpS_region
  simp [wpOpsS, go_sem, recoverD, hu, Try.ntmps53, Exit.thenS, Array.replicate, List.replicate]
  refine wpS_of_wp ?_
  have hta := fun w => assert_nil w
  go_wp2
  all_goals
    simp [bodyPostS, results, Try.results53, go_sem]
    exact ⟨.returning, by cases c₀; simp_all, rfl, (Below.refl _ _).alloc (Nat.le_refl _) _⟩
def valF : Except Int Int → Int | .ok v => v | .error _ => 0
def errF : Except Int Int → Int | .ok _ => 0 | .error e => e
theorem two_new {w w1 : World} {c1 c2 : Array Value} {t1 t2 : TypeId} (hb : Below ((w.alloc (.cells c1 t1)).alloc (.cells c2 t2)).heap.size ((w.alloc (.cells c1 t1)).alloc (.cells c2 t2)) w1) :
    (∀ i, w1.cell? ⟨w.heap.size, i, none⟩ = c1[i]?) ∧ (∀ i, w1.cell? ⟨w.heap.size + 1, i, none⟩ = c2[i]?) ∧ (∀ i, w1.frozen? ⟨w.heap.size, i, none⟩ = false) ∧ (∀ i, w1.frozen? ⟨w.heap.size + 1, i, none⟩ = false) ∧ w.heap.size + 1 < w1.heap.size := by
  refine ⟨fun i => ?_, fun i => ?_, fun i => ?_, fun i => ?_, ?_⟩
  · rw [hb.cell (p := ⟨w.heap.size, i, none⟩) (by simp; omega)]; simp [go_sem]
  · rw [hb.cell (p := ⟨w.heap.size + 1, i, none⟩) (by simp)]; simp [go_sem]
  · rw [hb.frozen (p := ⟨w.heap.size, i, none⟩) (by simp; omega)]; simp [go_sem]
  · rw [hb.frozen (p := ⟨w.heap.size + 1, i, none⟩) (by simp)]; simp [go_sem]
  · have := hb.size; simp at this; omega
set_option maxHeartbeats 1000000 in
theorem tried_c (K : FuncId) (caps : Array Value) (he : ∀ args w, (callFunc K args).run Try.prog w = .ok (.enter K args) w) (r : Except Int Int) (w : World)
    (h : ∀ w1, Below w.heap.size w w1 → Calls Try.prog K caps w1 fun e w' => e = endFix r ∧ Below w1.heap.size w1 w') :
    Calls Try.prog 41 #[.func (.func K) #[] caps] w fun e w' => e = .returned (.tuple #[.int .i64 (valF r), .int .i64 (errF r)]) ∧ Below w.heap.size w w' := by
  have hmf : ∀ (fn : Fn) (first cap : Array Value) (w : World), (Instr.makeFunc fn first cap).run Try.prog w = .ok (.func fn first cap) w := fun _ _ _ _ => rfl
  have HH : Hid (∀ w1, Below w.heap.size w w1 → Calls Try.prog K caps w1 fun e w' => e = endFix r ∧ Below w1.heap.size w1 w') := h
  have hcall : ∀ w, (callFunc K caps).run Try.prog w = .ok (.enter K caps) w := fun w => he caps w
  clear h he
  cases r with
  | ok v =>
    go_enter_defers Try.func41, Try.ntmps41
    go_wp2_with (go_at_fn K; refine (HH.out _ (((Below.refl _ _).alloc (Nat.le_refl _) _).alloc (by simp) _)).mono ?_; rintro e w1 ⟨rfl, hb1⟩; simp only [endFix]; obtain ⟨hc1, hc2, hf1, hf2, hz⟩ := two_new hb1; have hd1 := hc1 0; have hd2 := hc2 0)
    refine leaves_cons (f := 53) (args := #[.pointer (some ⟨w.heap.size, 0, none⟩), .pointer (some ⟨w.heap.size + 1, 0, none⟩)]) (by simp) (by simp [go_sem]) ?_
    have hs : ((w1.setCell ⟨w.heap.size, 0, none⟩ (.int .i64 v)).setCell ⟨w.heap.size + 1, 0, none⟩ (.int .i64 0)).heap.size = w1.heap.size := by simp [World.setCell]
    refine (tried1_idle w.heap.size _ (by rw [hs]; exact hz)).mono ?_
    rintro e u' w2 ⟨rfl, rfl, hb2⟩
    have g1 : w2.cell? ⟨w.heap.size, 0, none⟩ = some (.int .i64 v) := by
      rw [hb2.cell (p := ⟨w.heap.size, 0, none⟩) (by rw [hs]; show w.heap.size < _; omega), cell_set_ne _ (by simp)]
      exact cell_set _ hd1
    have g2 : w2.cell? ⟨w.heap.size + 1, 0, none⟩ = some (.int .i64 0) := by
      rw [hb2.cell (p := ⟨w.heap.size + 1, 0, none⟩) (by rw [hs]; exact hz)]
      exact cell_set (u := .int .i64 0) _ ((cell_set_ne _ (by simp)).trans hd2)
    clear HH hcall hmf hc1 hc2 hf1 hf2 hd1 hd2
    simp [Leaves, settle, results, Try.results41, go_sem, g1, g2, valF, errF]
    refine ((((Below.refl w.heap.size w).alloc (Nat.le_refl _) _).alloc (by simp) _).trans (hb1.mono (by simp; omega))).trans ?_
    exact (((Below.refl w.heap.size w1).setCell (p := ⟨w.heap.size, 0, none⟩) (Nat.le_refl _) _).setCell (p := ⟨w.heap.size + 1, 0, none⟩) (by simp) _).trans (hb2.mono (by rw [hs]; omega))
  | error c =>
    go_enter_defers Try.func41, Try.ntmps41
    go_wp2_with (go_at_fn K; refine (HH.out _ (((Below.refl _ _).alloc (Nat.le_refl _) _).alloc (by simp) _)).mono ?_; rintro e w1 ⟨rfl, hb1⟩; simp only [endFix]; obtain ⟨hc1, hc2, hf1, hf2, hz⟩ := two_new hb1)
    refine leaves_cons (f := 53) (args := #[.pointer (some ⟨w.heap.size, 0, none⟩), .pointer (some ⟨w.heap.size + 1, 0, none⟩)]) (by simp) (by simp [go_sem]) ?_
    refine (tried1_panic w.heap.size 0 0 c _ (hc1 0) (hc2 0) (hf1 0) (hf2 0) hz).mono ?_
    rintro e u' w2 ⟨rfl, rfl, g1, g2, hb2⟩
    clear HH hcall hmf hc1 hc2 hf1 hf2
    simp [Leaves, settle, results, Try.results41, go_sem, g1, g2, valF, errF]
    exact ((((Below.refl w.heap.size w).alloc (Nat.le_refl _) _).alloc (by simp) _).trans (hb1.mono (by simp; omega))).trans hb2
end Go.Proofs.Yteaadpgpihggeaa

namespace Go.Proofs.Yteaadpgpihggeaa
open Go.RowKit NumA
def okRate (x : Int) : Prop := -2147483648 ≤ x ∧ x ≤ 2147483648
def scaleX (a num den how : Int) : Except Int Int :=
  quot (hiW (absI a * absI num)) (loW (absI a * absI num)) (absI den) (decide (a < 0) != (decide (num < 0) != decide (den < 0))) how
theorem right_one {w : World} {b : Nat} {a : Int} (h : w.cell? ⟨b, 0, none⟩ = some (.int .i64 a)) : ∀ k, k < 1 → w.cell? ⟨b, k, none⟩ = some (.int .i64 ((fun _ => a) k)) := by
  intro k hk
  obtain rfl : k = 0 := by omega
  exact h
theorem neg3 (x y z : Bool) : (!x == !y == z) = (x != (y != z)) := by cases x <;> cases y <;> cases z <;> rfl
set_option maxHeartbeats 1000000 in
theorem scale1_c (b : Nat) (a num den how v : Int) (w : World) (h0 : w.cell? ⟨b, 0, none⟩ = some (.int .i64 a)) (h1 : w.cell? ⟨b + 1, 0, none⟩ = some (.int .i64 num)) (h2 : w.cell? ⟨b + 2, 0, none⟩ = some (.int .i64 den)) (h3 : w.cell? ⟨b + 3, 0, none⟩ = some (.int .i64 how)) (hb : b + 3 < w.heap.size)
    (c1 : okFix a) (c2 : Way how) (c3 : okRate num) (c3' : okRate den) (c4 : den ≠ 0) (hr : scaleX a num den how = .ok v) :
    Calls Try.prog 42 #[.pointer (some ⟨b, 0, none⟩), .pointer (some ⟨b + 3, 0, none⟩), .pointer (some ⟨b + 1, 0, none⟩), .pointer (some ⟨b + 2, 0, none⟩)] w fun e w' => e = endFix (.ok v) ∧ Below w.heap.size w w' := by
  have hal : ∀ o, Below w.heap.size w (w.alloc o) := fun o => (Below.refl _ _).alloc (Nat.le_refl _) o
  have g1 : ∀ o, (w.alloc o).cell? ⟨b + 1, 0, none⟩ = some (.int .i64 num) := fun o => ((hal o).cell (p := ⟨b + 1, 0, none⟩) (by simp <;> omega)).trans h1
  have g2 : ∀ o, (w.alloc o).cell? ⟨b + 2, 0, none⟩ = some (.int .i64 den) := fun o => ((hal o).cell (p := ⟨b + 2, 0, none⟩) (by simp <;> omega)).trans h2
  have g3 : ∀ o, (w.alloc o).cell? ⟨b + 3, 0, none⟩ = some (.int .i64 how) := fun o => ((hal o).cell (p := ⟨b + 3, 0, none⟩) (by simp <;> omega)).trans h3
  have g0 : ∀ o, (w.alloc o).cell? ⟨b, 0, none⟩ = some (.int .i64 a) := fun o => ((hal o).cell (p := ⟨b, 0, none⟩) (by simp <;> omega)).trans h0
  have HB : Hid (∀ o, Below w.heap.size w (w.alloc o)) := hal
  have C1 : Hid (okFix a) := c1
  obtain ⟨ha1, ha2⟩ := c1
  obtain ⟨e1, e2⟩ := c3
  obtain ⟨e3, e4⟩ := c3'
  have wa := absI_word (x := a) (by omega) (by omega)
  have wn := absI_word (x := num) (by omega) (by omega)
  have wd := absI_word (x := den) (by omega) (by omega)
  have WA : Hid (-9223372036854775808 ≤ a ∧ a ≤ 9223372036854775807) := ⟨by omega, by omega⟩
  have WN : Hid (-9223372036854775808 ≤ num ∧ num ≤ 9223372036854775807) := ⟨by omega, by omega⟩
  have WD : Hid (-9223372036854775808 ≤ den ∧ den ≤ 9223372036854775807) := ⟨by omega, by omega⟩
  have wp := mul_lt_128 wa wn
  have wh : Word (hiW (absI a * absI num)) := hiW_word wp.1 wp.2
  have d1 : decide ((-2147483648 : Int) ≤ num) = true := by simpa using e1
  have d2 : decide (num ≤ (2147483648 : Int)) = true := by simpa using e2
  have d3 : decide ((-2147483648 : Int) ≤ den) = true := by simpa using e3
  have d4 : decide (den ≤ (2147483648 : Int)) = true := by simpa using e4
  have d5 : (den != 0) = true := by simpa using c4
  have HR : Hid (quot (hiW (absI a * absI num)) (loW (absI a * absI num)) (absI den) (decide (a < 0) != (decide (num < 0) != decide (den < 0))) how = .ok v) := hr
  have G0 := g0 (.cells #[.int .i64 a] 27)
  have G1 := g1 (.cells #[.int .i64 a] 27)
  have G2 := g2 (.cells #[.int .i64 a] 27)
  clear hal h1 h2 h3 wp hr ha1 ha2
  go_enter Try.func42, Try.ntmps42
  go_wp2_with (first
      | (go_at_call 43; refine (right_yes w.heap.size 1 (fun _ => a) _ (by omega) (right_one (by simp [go_sem])) (fun _ _ => C1.out)).mono ?_; rintro e w' ⟨rfl, rfl⟩)
      | (go_at_call 44; refine (ways_yes how _ c2).mono ?_; rintro e w' ⟨rfl, rfl⟩)
      | (go_at_call 45; with_reducible refine (need_yes _ _).mono ?_; rintro e w' ⟨rfl, rfl⟩))
  go_region_held3 (fun w' => w'.cell? ⟨b, 0, none⟩ = some (.int .i64 a) ∧ w'.cell? ⟨b + 1, 0, none⟩ = some (.int .i64 num) ∧ w'.cell? ⟨b + 2, 0, none⟩ = some (.int .i64 den)) (first | exact ⟨m0, m1, m2⟩ | exact ⟨k0, k1, k2⟩ | simp [go_sem, G0, G1, G2])
    (first
      | (go_at_call 48; refine (size_c a _ WA.out.1 WA.out.2).mono ?_; rintro e w' ⟨rfl, rfl⟩)
      | (go_at_call_of 49 (Value.int .i64 num); refine (sizeInt_c num _ WN.out.1 WN.out.2).mono ?_; rintro e w' ⟨rfl, rfl⟩)
      | (go_at_call_of 49 (Value.int .i64 den); refine (sizeInt_c den _ WD.out.1 WD.out.2).mono ?_; rintro e w' ⟨rfl, rfl⟩)
      | (go_at_call 47; refine (product_c _ _ _ wa wn).mono ?_; rintro e w2 ⟨rfl, hbp⟩; have k0 := (hbp.cell (p := ⟨b, 0, none⟩) (by simp <;> omega)).trans G0; have k1 := (hbp.cell (p := ⟨b + 1, 0, none⟩) (by simp <;> omega)).trans G1; have k2 := (hbp.cell (p := ⟨b + 2, 0, none⟩) (by simp <;> omega)).trans G2)
      | (go_at_call 46; refine (quotient_c _ _ _ _ how _ c2 wh (loW_word _) wd).mono ?_; rintro e w3 ⟨rfl, hbq⟩; rw [neg3, HR.out]; simp only [endFix]; have hz2 : b + 3 < w2.heap.size := (by have hs := hbp.size; simp at hs; omega); have m0 := (hbq.cell (p := ⟨b, 0, none⟩) (by show b < _; omega)).trans k0; have m1 := (hbq.cell (p := ⟨b + 1, 0, none⟩) (by show b + 1 < _; omega)).trans k1; have m2 := (hbq.cell (p := ⟨b + 2, 0, none⟩) (by show b + 2 < _; omega)).trans k2))
  go_wp2
  go_ret
  refine ⟨rfl, ?_⟩
  have hs : w.heap.size + 1 ≤ w2.heap.size := by have := hbp.size; simp at this; exact this
  exact ((HB.out (.cells #[.int .i64 a] 27)).drew.trans (hbp.mono (by show w.heap.size ≤ (w.alloc _).heap.size; simp))).trans (hbq.mono (by omega))
theorem scale_c (a num den how v : Int) (w : World) (c1 : okFix a) (c2 : Way how) (c3 : okRate num) (c3' : okRate den) (c4 : den ≠ 0) (hr : scaleX a num den how = .ok v) :
    Calls Try.prog 36 #[.int .i64 a, .int .i64 num, .int .i64 den, .int .i64 how] w fun e w' => e = .returned (.tuple #[.int .i64 v, .int .i64 0]) ∧ Below w.heap.size w w' := by
  have hmf : ∀ (fn : Fn) (first cap : Array Value) (w : World), (Instr.makeFunc fn first cap).run Try.prog w = .ok (.func fn first cap) w := fun _ _ _ _ => rfl
  have hen := enters_of Try.func42 (by kernel_rfl) rfl
  have HK : Hid (∀ (W w1 : World), W = (((w.alloc (.cells #[.int .i64 a] 27)).alloc (.cells #[.int .i64 num] 3)).alloc (.cells #[.int .i64 den] 3)).alloc (.cells #[.int .i64 how] 3) → Below W.heap.size W w1 →
      Calls Try.prog 42 #[.pointer (some ⟨w.heap.size, 0, none⟩), .pointer (some ⟨w.heap.size + 3, 0, none⟩), .pointer (some ⟨w.heap.size + 1, 0, none⟩), .pointer (some ⟨w.heap.size + 2, 0, none⟩)] w1 fun e w' => e = endFix (.ok v) ∧ Below w1.heap.size w1 w') := by
    rintro W w1 rfl hb
    have hs := hb.size
    simp at hs
    exact scale1_c w.heap.size a num den how v w1 ((hb.cell (p := ⟨w.heap.size, 0, none⟩) (by simp <;> omega)).trans (by simp [go_sem])) ((hb.cell (p := ⟨w.heap.size + 1, 0, none⟩) (by simp <;> omega)).trans (by simp [go_sem]))
      ((hb.cell (p := ⟨w.heap.size + 2, 0, none⟩) (by simp <;> omega)).trans (by simp [go_sem])) ((hb.cell (p := ⟨w.heap.size + 3, 0, none⟩) (by simp)).trans (by simp [go_sem])) (by omega) c1 c2 c3 c3' c4 hr
  have HE : Hid (∀ args w, (callFunc 42 args).run Try.prog w = .ok (.enter 42 args) w) := hen
  clear hen c4 hr
  go_enter Try.func36, Try.ntmps36
  go_wp2_with (go_at_call 41; refine (tried_c 42 _ HE.out (.ok v) _ (fun w1 hb => HK.out _ w1 rfl hb)).mono ?_; rintro e w1 ⟨rfl, hb1⟩; simp only [valF, errF])
  go_ret2
  refine ⟨rfl, ?_⟩
  exact (((((Below.refl _ _).alloc (Nat.le_refl _) _).alloc (by simp) _).alloc (by simp <;> omega) _).alloc (by simp <;> omega) _).trans (hb1.mono (by simp <;> omega))
end Go.Proofs.Yteaadpgpihggeaa

namespace Go.Proofs.Yteaadpgpihggeaa
open Go.RowKit
def nth (xs : List Int) (i : Nat) : Int := xs.getD i 0
def Ints (w : World) (v : Value) (xs : List Int) : Prop :=
  (∃ p cap, v = .slice p 0 cap ∧ xs = []) ∨
  (∃ b off cap, v = .slice (some ⟨b, off, none⟩) xs.length cap ∧ 0 < xs.length ∧ xs.length ≤ 9223372036854775807 ∧ (∀ i, i < xs.length → w.cell? ⟨b, off + i, none⟩ = some (.int .i64 (nth xs i))) ∧ (∀ x ∈ xs, -9223372036854775808 ≤ x ∧ x ≤ 9223372036854775807))
theorem lt_of_cell {w : World} {b o : Nat} {s : Option Nat} {v : Value} (h : w.cell? ⟨b, o, s⟩ = some v) : b < w.heap.size := by
  rcases Nat.lt_or_ge b w.heap.size with hb | hb
  · exact hb
  · simp [World.cell?, Array.getElem?_eq_none hb] at h
theorem Ints.below {w w' : World} {v : Value} {xs : List Int} {B : Nat} (h : Ints w v xs) (hb : Below B w w') (hB : w.heap.size ≤ B) : Ints w' v xs := by
  rcases h with h | ⟨b, off, cap, rfl, h0, h1, h2, h3⟩
  · exact .inl h
  · refine .inr ⟨b, off, cap, rfl, h0, h1, fun i hi => ?_, h3⟩
    have := lt_of_cell (h2 i hi)
    rw [hb.cell (p := ⟨b, off + i, none⟩) (by show b < B; omega)]
    exact h2 i hi
theorem getD_mem {xs : List Int} {i : Nat} (h : i < xs.length) : nth xs i ∈ xs := by
  rw [nth, List.getD_eq_getElem?_getD, List.getElem?_eq_getElem h]
  simp
theorem Ints.len_le {w : World} {v : Value} {xs : List Int} (h : Ints w v xs) : xs.length ≤ 9223372036854775807 := by
  rcases h with ⟨_, _, _, rfl⟩ | ⟨_, _, _, _, _, h1, _⟩
  · simp
  · exact h1
def PureFn (K : FuncId) (caps : Array Value) (xs : List Int) (p : Int → Bool) : Prop :=
  (∀ args w, (callFunc K args).run Try.prog w = .ok (.enter K args) w) ∧ ∀ x ∈ xs, ∀ w, Calls Try.prog K (#[.int .i64 x] ++ caps) w fun e w' => e = .returned (.bool (p x)) ∧ w = w'
def idxI (p : Int → Bool) : List Int → Int
  | [] => -1
  | x :: r => if p x then 0 else if idxI p r < 0 then -1 else idxI p r + 1
theorem idxI_none {p : Int → Bool} : ∀ {xs : List Int}, (∀ x ∈ xs, p x = false) → idxI p xs = -1
  | [], _ => rfl
  | x :: r, h => by
    have h1 := h x (by simp)
    have h2 := idxI_none (xs := r) (fun y hy => h y (by simp [hy]))
    simp [idxI, h1, h2]
theorem idxI_some {p : Int → Bool} : ∀ {xs : List Int} (k : Nat), k < xs.length → (∀ j, j < k → p (nth xs j) = false) → p (nth xs k) = true → idxI p xs = k
  | [], k, h, _, _ => by simp at h
  | x :: r, 0, _, _, h => by
    have : p x = true := by simpa [nth] using h
    simp [idxI, this]
  | x :: r, k + 1, h, h1, h2 => by
    have hx : p x = false := by simpa [nth] using h1 0 (by omega)
    have := idxI_some (xs := r) k (by simpa using h) (fun j hj => by simpa [nth] using h1 (j + 1) (by omega)) (by simpa [nth] using h2)
    simp [idxI, hx, this]
    omega
theorem idxI_any_iff (p : Int → Bool) : ∀ xs : List Int, 0 ≤ idxI p xs ↔ xs.any p = true
  | [] => by simp [idxI]
  | x :: r => by
    have ih := idxI_any_iff p r
    have e : idxI p (x :: r) = if p x then 0 else if idxI p r < 0 then -1 else idxI p r + 1 := rfl
    rw [e, List.any_cons]
    by_cases h : p x = true
    · simp [h]
    · simp only [Bool.not_eq_true] at h
      rw [h, Bool.false_or, ← ih]
      simp only [Bool.false_eq_true, if_false]
      split <;> omega
theorem idxI_any (p : Int → Bool) (xs : List Int) : decide (0 ≤ idxI p xs) = xs.any p := by
  rw [Bool.eq_iff_iff, decide_eq_true_eq]
  exact idxI_any_iff p xs
set_option maxHeartbeats 1000000 in
theorem indexFunc_c (K : FuncId) (caps : Array Value) (xs : List Int) (p : Int → Bool) (v : Value) (w : World) (hf : PureFn K caps xs p) (hv : Ints w v xs) :
    Calls Try.prog 35 #[v, .func (.func K) #[] caps] w fun e w' => e = .returned (.int .i64 (idxI p xs)) ∧ w = w' := by
  obtain ⟨hen, hp⟩ := hf
  have HP : Hid (∀ x ∈ xs, ∀ w, Calls Try.prog K (#[.int .i64 x] ++ caps) w fun e w' => e = .returned (.bool (p x)) ∧ w = w') := hp
  have hcall : ∀ x w, (callFunc K (#[x] ++ caps)).run Try.prog w = .ok (.enter K (#[x] ++ caps)) w := fun x w => hen _ w
  clear hp hen
  rcases hv with ⟨q, cap, rfl, rfl⟩ | ⟨b, off, cap, rfl, h0, h1, h2, h3⟩
  · go_enter Try.func35, Try.ntmps35
    go_wp2_with fail
    go_loop [5, 8] (fun _ i => i = .int .i64 0) (fun _ _ => 0)
    case atStart => rfl
    case round =>
      subst hrel
      go_wp2_with fail
      go_ret
      exact ⟨rfl, rfl⟩
  · have H2 : Hid (∀ i, i < xs.length → w.cell? ⟨b, off + i, none⟩ = some (.int .i64 (nth xs i))) := h2
    have H3 : Hid (∀ x ∈ xs, -9223372036854775808 ≤ x ∧ x ≤ 9223372036854775807) := h3
    clear h2 h3
    generalize hn : xs.length = n at *
    have HN : Hid (xs.length = n) := hn
    clear hn
    go_enter Try.func35, Try.ntmps35
    go_wp2_with fail
    go_loop [5, 8] (fun _ i => ∃ k : Nat, k ≤ n ∧ i = .int .i64 k ∧ Hid (∀ j, j < k → p (nth xs j) = false)) (fun _ i => n - (intOf i).toNat)
    case atStart => exact ⟨0, Nat.zero_le _, rfl, fun j hj => by omega⟩
    case round =>
      obtain ⟨k, hk, rfl, hno⟩ := hrel
      by_cases hlt : k < n
      · have hc := H2.out k hlt
        have hmem := getD_mem (xs := xs) (i := k) (by rw [HN.out]; exact hlt)
        have hb := HP.out _ hmem
        generalize hx : nth xs k = x at *
        have HX : Hid (nth xs k = x) := hx
        have HB : Hid (∀ w, Calls Try.prog K (#[.int .i64 x] ++ caps) w fun e w' => e = .returned (.bool (p x)) ∧ w = w') := hb
        clear hx hb hmem
        cases hpx : p x
        · have HPX : Hid (p x = false) := hpx
          rw [hpx] at HB
          clear hpx
          go_wp2_with (go_at_fn K; refine (HB.out _).mono ?_; rintro e w' ⟨rfl, rfl⟩)
          go_round
          case rel =>
            refine ⟨k + 1, by omega, by go_num, fun j hj => ?_⟩
            rcases Nat.lt_or_ge j k with h | h
            · exact hno.out j h
            · obtain rfl : j = k := by omega
              rw [HX.out]; exact HPX.out
          case measure => simp [intOf]; omega
        · have HPX : Hid (p x = true) := hpx
          rw [hpx] at HB
          clear hpx
          go_wp2_with (go_at_fn K; refine (HB.out _).mono ?_; rintro e w' ⟨rfl, rfl⟩)
          go_ret
          exact ⟨ret_i64 (idxI_some k (by rw [HN.out]; exact hlt) hno.out (by rw [HX.out]; exact HPX.out)).symm, rfl⟩
      · go_wp2_with fail
        go_ret
        refine ⟨ret_i64 (idxI_none fun x hx => ?_).symm, rfl⟩
        obtain ⟨j, hj, rfl⟩ := List.mem_iff_getElem.1 hx
        have := hno.out j (by have := HN.out; omega)
        rw [nth, List.getD_eq_getElem?_getD, List.getElem?_eq_getElem hj] at this
        simpa using this
theorem containsFunc_c (K : FuncId) (caps : Array Value) (xs : List Int) (p : Int → Bool) (v : Value) (w : World) (hf : PureFn K caps xs p) (hv : Ints w v xs) :
    Calls Try.prog 26 #[v, .func (.func K) #[] caps] w fun e w' => e = .returned (.bool (xs.any p)) ∧ w = w' := by
  rw [← idxI_any]
  have HF : Hid (PureFn K caps xs p) := hf
  have HV : Hid (Ints w v xs) := hv
  clear hf hv
  generalize hg : idxI p xs = g at *
  have HG : Hid (idxI p xs = g) := hg
  clear hg
  go_enter Try.func26, Try.ntmps26
  go_wp2_with (go_at_call 35; refine (indexFunc_c K caps xs p v _ HF.out HV.out).mono ?_; rintro e w' ⟨rfl, rfl⟩; rw [HG.out])
  go_ret
  exact ⟨rfl, rfl⟩
set_option maxHeartbeats 1000000 in
theorem indexFuncFix_c (K : FuncId) (caps : Array Value) (xs : List Int) (p : Int → Bool) (v : Value) (w : World) (hf : PureFn K caps xs p) (hv : Ints w v xs) :
    Calls Try.prog 28 #[v, .func (.func K) #[] caps] w fun e w' => e = .returned (.int .i64 (idxI p xs)) ∧ w = w' := by
  obtain ⟨hen, hp⟩ := hf
  have HP : Hid (∀ x ∈ xs, ∀ w, Calls Try.prog K (#[.int .i64 x] ++ caps) w fun e w' => e = .returned (.bool (p x)) ∧ w = w') := hp
  have hcall : ∀ x w, (callFunc K (#[x] ++ caps)).run Try.prog w = .ok (.enter K (#[x] ++ caps)) w := fun x w => hen _ w
  clear hp hen
  rcases hv with ⟨q, cap, rfl, rfl⟩ | ⟨b, off, cap, rfl, h0, h1, h2, h3⟩
  · go_enter Try.func28, Try.ntmps28
    go_wp2_with fail
    go_loop [5, 8] (fun _ i => i = .int .i64 0) (fun _ _ => 0)
    case atStart => rfl
    case round =>
      subst hrel
      go_wp2_with fail
      go_ret
      exact ⟨rfl, rfl⟩
  · have H2 : Hid (∀ i, i < xs.length → w.cell? ⟨b, off + i, none⟩ = some (.int .i64 (nth xs i))) := h2
    have H3 : Hid (∀ x ∈ xs, -9223372036854775808 ≤ x ∧ x ≤ 9223372036854775807) := h3
    clear h2 h3
    generalize hn : xs.length = n at *
    have HN : Hid (xs.length = n) := hn
    clear hn
    go_enter Try.func28, Try.ntmps28
    go_wp2_with fail
    go_loop [5, 8] (fun _ i => ∃ k : Nat, k ≤ n ∧ i = .int .i64 k ∧ Hid (∀ j, j < k → p (nth xs j) = false)) (fun _ i => n - (intOf i).toNat)
    case atStart => exact ⟨0, Nat.zero_le _, rfl, fun j hj => by omega⟩
    case round =>
      obtain ⟨k, hk, rfl, hno⟩ := hrel
      by_cases hlt : k < n
      · have hc := H2.out k hlt
        have hmem := getD_mem (xs := xs) (i := k) (by rw [HN.out]; exact hlt)
        have hb := HP.out _ hmem
        generalize hx : nth xs k = x at *
        have HX : Hid (nth xs k = x) := hx
        have HB : Hid (∀ w, Calls Try.prog K (#[.int .i64 x] ++ caps) w fun e w' => e = .returned (.bool (p x)) ∧ w = w') := hb
        clear hx hb hmem
        cases hpx : p x
        · have HPX : Hid (p x = false) := hpx
          rw [hpx] at HB
          clear hpx
          go_wp2_with (go_at_fn K; refine (HB.out _).mono ?_; rintro e w' ⟨rfl, rfl⟩)
          go_round
          case rel =>
            refine ⟨k + 1, by omega, by go_num, fun j hj => ?_⟩
            rcases Nat.lt_or_ge j k with h | h
            · exact hno.out j h
            · obtain rfl : j = k := by omega
              rw [HX.out]; exact HPX.out
          case measure => simp [intOf]; omega
        · have HPX : Hid (p x = true) := hpx
          rw [hpx] at HB
          clear hpx
          go_wp2_with (go_at_fn K; refine (HB.out _).mono ?_; rintro e w' ⟨rfl, rfl⟩)
          go_ret
          exact ⟨ret_i64 (idxI_some k (by rw [HN.out]; exact hlt) hno.out (by rw [HX.out]; exact HPX.out)).symm, rfl⟩
      · go_wp2_with fail
        go_ret
        refine ⟨ret_i64 (idxI_none fun x hx => ?_).symm, rfl⟩
        obtain ⟨j, hj, rfl⟩ := List.mem_iff_getElem.1 hx
        have := hno.out j (by have := HN.out; omega)
        rw [nth, List.getD_eq_getElem?_getD, List.getElem?_eq_getElem hj] at this
        simpa using this
theorem containsFuncFix_c (K : FuncId) (caps : Array Value) (xs : List Int) (p : Int → Bool) (v : Value) (w : World) (hf : PureFn K caps xs p) (hv : Ints w v xs) :
    Calls Try.prog 15 #[v, .func (.func K) #[] caps] w fun e w' => e = .returned (.bool (xs.any p)) ∧ w = w' := by
  rw [← idxI_any]
  have HF : Hid (PureFn K caps xs p) := hf
  have HV : Hid (Ints w v xs) := hv
  clear hf hv
  generalize hg : idxI p xs = g at *
  have HG : Hid (idxI p xs = g) := hg
  clear hg
  go_enter Try.func15, Try.ntmps15
  go_wp2_with (go_at_call 28; refine (indexFuncFix_c K caps xs p v _ HF.out HV.out).mono ?_; rintro e w' ⟨rfl, rfl⟩; rw [HG.out])
  go_ret
  exact ⟨rfl, rfl⟩
end Go.Proofs.Yteaadpgpihggeaa

namespace Go.Proofs.Yteaadpgpihggeaa
open Go.RowKit
def wB (n lo hi : Int) : Bool := decide (lo ≤ n) && decide (n ≤ hi)
theorem wB_iff (n lo hi : Int) : wB n lo hi = true ↔ lo ≤ n ∧ n ≤ hi := by simp [wB]
theorem within_c (n lo hi : Int) (w : World) : Calls Try.prog 16 #[.int .i64 n, .int .i64 lo, .int .i64 hi] w fun e w' => e = .returned (.bool (wB n lo hi)) ∧ w = w' := by
  unfold wB
  cases h1 : decide (lo ≤ n) <;> cases h2 : decide (n ≤ hi)
  all_goals
    go_enter Try.func16, Try.ntmps16
    go_wp2
    go_ret
    exact ⟨rfl, rfl⟩
theorem withinFix_c (n lo hi : Int) (w : World) : Calls Try.prog 14 #[.int .i64 n, .int .i64 lo, .int .i64 hi] w fun e w' => e = .returned (.bool (wB n lo hi)) ∧ w = w' := by
  unfold wB
  cases h1 : decide (lo ≤ n) <;> cases h2 : decide (n ≤ hi)
  all_goals
    go_enter Try.func14, Try.ntmps14
    go_wp2
    go_ret
    exact ⟨rfl, rfl⟩
theorem counted1_c (n : Int) (w : World) : Calls Try.prog 27 #[.int .i64 n] w fun e w' => e = .returned (.bool (!wB n 0 1000000)) ∧ w = w' := by
  cases h : wB n 0 1000000
  all_goals
    have H : Hid (wB n 0 1000000 = _) := h
    clear h
    go_enter Try.func27, Try.ntmps27
    go_wp2_with (go_at_call 16; refine (within_c _ _ _ _).mono ?_; rintro e w' ⟨rfl, rfl⟩; rw [H.out])
    go_ret
    exact ⟨rfl, rfl⟩
theorem counted1_pure (xs : List Int) : PureFn 27 #[] xs (fun n => !wB n 0 1000000) :=
  ⟨enters_of Try.func27 (by kernel_rfl) rfl, fun x _ w => counted1_c x w⟩
def countB (xs : List Int) : Bool := wB xs.length 1 49 && !(xs.any fun n => !wB n 0 1000000)
theorem countB_iff (xs : List Int) : countB xs = true ↔ (1 ≤ xs.length ∧ xs.length ≤ 49) ∧ ∀ n ∈ xs, 0 ≤ n ∧ n ≤ 1000000 := by
  unfold countB
  rw [Bool.and_eq_true, wB_iff, Bool.not_eq_true', List.any_eq_false]
  constructor
  · rintro ⟨h1, h2⟩
    refine ⟨by omega, fun n hn => ?_⟩
    have := h2 n hn
    rw [Bool.not_eq_true', Bool.not_eq_false] at this
    exact (wB_iff _ _ _).1 this
  · rintro ⟨h1, h2⟩
    refine ⟨by omega, fun n hn => ?_⟩
    rw [Bool.not_eq_true', Bool.not_eq_false]
    exact (wB_iff _ _ _).2 (h2 n hn)
theorem upto_succ {P : Nat → Prop} {k : Nat} (h : ∀ j, j < k → P j) (hk : P k) : ∀ j, j < k + 1 → P j := by
  intro j hj
  rcases Nat.lt_or_ge j k with h' | h'
  · exact h j h'
  · obtain rfl : j = k := by omega
    exact hk
theorem Ints.shape {w : World} {v : Value} {xs : List Int} (h : Ints w v xs) : ∃ p cap, v = .slice p xs.length cap := by
  rcases h with ⟨p, cap, rfl, rfl⟩ | ⟨b, off, cap, rfl, _⟩
  · exact ⟨p, cap, rfl⟩
  · exact ⟨_, _, rfl⟩
theorem counted_c (xs : List Int) (v : Value) (w : World) (hv : Ints w v xs) :
    Calls Try.prog 12 #[v] w fun e w' => e = .returned (.bool (countB xs)) ∧ w = w' := by
  unfold countB
  have HV : Hid (Ints w v xs) := hv
  obtain ⟨p, cap, rfl⟩ := hv.shape
  have hl := hv.len_le
  clear hv
  cases h1 : wB xs.length 1 49 <;> cases h2 : xs.any fun n => !wB n 0 1000000
  all_goals
    have H1 : Hid (wB xs.length 1 49 = _) := h1
    have H2 : Hid ((xs.any fun n => !wB n 0 1000000) = _) := h2
    clear h1 h2
    go_enter Try.func12, Try.ntmps12
    go_wp2_with (first
      | (go_at_call 16; refine (within_c _ _ _ _).mono ?_; rintro e w' ⟨rfl, rfl⟩; rw [H1.out])
      | (go_at_call 26; refine (containsFunc_c 27 #[] xs _ _ _ (counted1_pure xs) HV.out).mono ?_; rintro e w' ⟨rfl, rfl⟩; rw [H2.out]))
    go_ret
    exact ⟨rfl, rfl⟩
def evBad (xs : List Int) (many : Int) (i : Nat) : Bool := !wB (nth xs i) 0 (many - 1) || (decide (0 < i) && decide (nth xs i ≤ nth xs (i - 1)))
def evB (xs : List Int) (many : Int) : Bool := !((List.range xs.length).any (evBad xs many))
theorem evB_true {xs : List Int} {many : Int} (h : ∀ j, j < xs.length → evBad xs many j = false) : evB xs many = true := by
  unfold evB
  simp only [Bool.not_eq_true', List.any_eq_false, List.mem_range, Bool.not_eq_true]
  exact h
theorem evB_false {xs : List Int} {many : Int} (j : Nat) (hj : j < xs.length) (h : evBad xs many j = true) : evB xs many = false := by
  unfold evB
  simp only [Bool.not_eq_false', List.any_eq_true, List.mem_range]
  exact ⟨j, hj, h⟩
set_option maxHeartbeats 1000000 in
theorem event_c (xs : List Int) (many : Int) (v : Value) (w : World) (hv : Ints w v xs) (hm0 : 0 ≤ many) (hm1 : many ≤ 9223372036854775807) :
    Calls Try.prog 20 #[v, .int .i64 many] w fun e w' => e = .returned (.bool (evB xs many)) ∧ w = w' := by
  rcases hv with ⟨q, cap, rfl, rfl⟩ | ⟨b, off, cap, rfl, h0, h1, h2, h3⟩
  · go_enter Try.func20, Try.ntmps20
    go_wp2_with fail
    go_loop [5, 6, 9] (fun _ _ i => i = .int .i64 0) (fun _ _ _ => 0)
    case atStart => rfl
    case round =>
      subst hrel
      go_wp2_with fail
      go_ret
      exact ⟨rfl, rfl⟩
  · have H2 : Hid (∀ i, i < xs.length → w.cell? ⟨b, off + i, none⟩ = some (.int .i64 (nth xs i))) := h2
    clear h2 h3
    generalize hn : xs.length = n at *
    have HN : Hid (xs.length = n) := hn
    clear hn
    go_enter Try.func20, Try.ntmps20
    go_wp2_with fail
    go_loop [5, 6, 9] (fun _ _ i => ∃ k : Nat, k ≤ n ∧ i = .int .i64 k ∧ Hid (∀ j, j < k → evBad xs many j = false)) (fun _ _ i => n - (intOf i).toNat)
    case atStart => exact ⟨0, Nat.zero_le _, rfl, fun j hj => by omega⟩
    case round =>
      obtain ⟨k, hk, rfl, hno⟩ := hrel
      by_cases hlt : k < n
      · have hc := H2.out k hlt
        have hcp := fun (h : 0 < k) => H2.out (k - 1) (by omega)
        have HE : Hid (evBad xs many k = (!wB (nth xs k) 0 (many - 1) || (decide (0 < k) && decide (nth xs k ≤ nth xs (k - 1))))) := rfl
        generalize hx : nth xs k = x at *
        generalize hy : nth xs (k - 1) = y at *
        clear hx hy
        cases hw : wB x 0 (many - 1)
        · have HW : Hid (wB x 0 (many - 1) = false) := hw
          have HF : Hid (evBad xs many k = true) := by show _ = _; rw [HE.out, HW.out]; rfl
          clear hw hcp HE
          go_wp2_with (go_at_call 16; refine (within_c _ _ _ _).mono ?_; rintro e w' ⟨rfl, rfl⟩; rw [HW.out])
          go_ret
          exact ⟨by rw [evB_false k (by rw [HN.out]; exact hlt) HF.out]; rfl, rfl⟩
        · have HW : Hid (wB x 0 (many - 1) = true) := hw
          clear hw
          by_cases hk0 : 0 < k
          · obtain ⟨m, rfl⟩ : ∃ m, k = m + 1 := ⟨k - 1, by omega⟩
            have hcm := hcp hk0
            simp only [Nat.add_sub_cancel] at hcm
            have hd0 : decide ((0 : Int) < ((m + 1 : Nat) : Int)) = true := by simp only [decide_eq_true_eq]; omega
            cases hd : decide (x ≤ y)
            · have HF : Hid (evBad xs many (m + 1) = false) := by show _ = _; rw [HE.out, HW.out, hd]; simp
              clear hcp HE
              go_wp2_with (go_at_call 16; refine (within_c _ _ _ _).mono ?_; rintro e w' ⟨rfl, rfl⟩; rw [HW.out])
              go_round
              case rel => exact ⟨m + 1 + 1, by omega, by go_num, upto_succ hno.out HF.out⟩
              case measure => simp [intOf]; omega
            · have HF : Hid (evBad xs many (m + 1) = true) := by show _ = _; rw [HE.out, HW.out, hd]; simp
              clear hcp HE
              go_wp2_with (go_at_call 16; refine (within_c _ _ _ _).mono ?_; rintro e w' ⟨rfl, rfl⟩; rw [HW.out])
              go_ret
              exact ⟨by rw [evB_false (m + 1) (by rw [HN.out]; exact hlt) HF.out]; rfl, rfl⟩
          · obtain rfl : k = 0 := by omega
            simp only [Nat.add_zero] at hc
            have HF : Hid (evBad xs many 0 = false) := by show _ = _; rw [HE.out, HW.out]; simp
            clear hcp HE
            go_wp2_with (go_at_call 16; refine (within_c _ _ _ _).mono ?_; rintro e w' ⟨rfl, rfl⟩; rw [HW.out])
            go_round
            case rel => exact ⟨1, by omega, by go_num, upto_succ hno.out HF.out⟩
            case measure => simp [intOf]; omega
      · go_wp2_with fail
        go_ret
        exact ⟨by rw [evB_true fun j hj => hno.out j (by have := HN.out; omega)]; rfl, rfl⟩
end Go.Proofs.Yteaadpgpihggeaa
