/- Parts of the proof, in build order. -/
import Derived.Test.YtfbiblmlcepdlaaGreatM7
import Derived.Deep.RegionHeld3
import Derived.StillTailTactics
import Derived.Deep.DeepCutAuto
import Derived.Test.YtfbiblmlcepdlaaGreatM6
import Derived.Shelf.Spec.BitsCarry
import Derived.Test.YtfbiblmlcepdlaaGreatProg
import Derived.WalkKit
import Derived.WalkSpells
import Derived.WalkLawsBesides
import Derived.Defers
import Derived.Recover
import Derived.Below
import Derived.RegionTactic
import Derived.ChangeAlike
import Derived.Outline
import Derived.Shelf.Abstract
import Derived.Lib.Hide
namespace Go.Proofs.YtfbiblmlcepdlaaGreat
open Go.RowKit NumA
def hiW (n : Int) : Int := n / 18446744073709551616
def loW (n : Int) : Int := n % 18446744073709551616
theorem hiW_word {n : Int} (h0 : 0 ≤ n) (h1 : n < 340282366920938463463374607431768211456) : Word (hiW n) := by unfold Word hiW; omega
theorem loW_word (n : Int) : Word (loW n) := by unfold Word loW; omega
theorem hiW_loW (n : Int) : hiW n * 18446744073709551616 + loW n = n := by unfold hiW loW; omega
abbrev wideV (h l : Int) : Value := .agg #[.int .u64 h, .int .u64 l]
theorem product_c (x y : Int) (w : World) (hx : Word x) (hy : Word y) :
    Calls Tryz.prog 42 #[.int .u64 x, .int .u64 y] w fun e w' => e = .returned (wideV (hiW (x * y)) (loW (x * y))) ∧ Below w.heap.size w w' := by
  go_enter Tryz.func42, Tryz.ntmps42
  go_wp2_with (go_at_call 73; refine (mul64 _ _ hx hy _).mono ?_; rintro e w' ⟨rfl, rfl⟩)
  exact bodyPost_ret (v := wideV (hiW (x * y)) (loW (x * y))) (by simp [results, Tryz.results42, go_sem, hiW, loW]) rfl ⟨rfl, (Below.refl _ _).alloc (Nat.le_refl _) _⟩
def cmpI (a b : Int) : Int := if a < b then -1 else if b < a then 1 else 0
theorem isNaN_c (x : Int) (w : World) : Calls Tryz.prog 109 #[.int .u64 x] w fun e w' => e = .returned (.bool false) ∧ w = w' := by
  go_enter Tryz.func109, Tryz.ntmps109
  go_wp2
  go_ret
  exact ⟨by simp, rfl⟩
theorem compare_c (x y : Int) (w : World) : Calls Tryz.prog 99 #[.int .u64 x, .int .u64 y] w fun e w' => e = .returned (.int .i64 (cmpI x y)) ∧ w = w' := by
  unfold cmpI
  go_enter Tryz.func99, Tryz.ntmps99
  go_wp2_with (go_at_call 109; refine (isNaN_c _ _).mono ?_; rintro e w' ⟨rfl, rfl⟩)
  all_goals (go_ret; exact ⟨by simp [*], rfl⟩)
def orI (x y : Int) : Int := if x = 0 then y else x
theorem or_c (x y : Int) (b : Nat) (w : World) (h0 : w.cell? ⟨b, 0, none⟩ = some (.int .i64 x)) (h1 : w.cell? ⟨b, 1, none⟩ = some (.int .i64 y)) :
    Calls Tryz.prog 98 #[.slice (some ⟨b, 0, none⟩) 2 2] w fun e w' => e = .returned (.int .i64 (orI x y)) ∧ w = w' := by
  unfold orI
  go_enter Tryz.func98, Tryz.ntmps98
  go_wp2
  go_loop [5, 8] (fun _ i => i = .int .i64 0 ∨ (i = .int .i64 1 ∧ x = 0) ∨ (i = .int .i64 2 ∧ x = 0 ∧ y = 0)) (fun _ i => (2 - intOf i).toNat)
  case atStart => exact .inl rfl
  case round =>
    rcases hrel with rfl | ⟨rfl, rfl⟩ | ⟨rfl, rfl, rfl⟩
    · by_cases hx : x = 0
      · subst hx
        go_wp2
        go_round
        case rel => simp
        case measure => simp [intOf]
      · have hxb : (x != 0) = true := by simpa using hx
        go_wp2
        go_ret
        exact ⟨by simp [hx], rfl⟩
    · by_cases hy : y = 0
      · subst hy
        go_wp2
        go_round
        case rel => simp
        case measure => simp [intOf]
      · have hxb : (y != 0) = true := by simpa using hy
        go_wp2
        go_ret
        exact ⟨by simp, rfl⟩
    · go_wp2
      go_ret
      exact ⟨by simp, rfl⟩
set_option maxHeartbeats 1000000 in
theorem wcompare_c (a b c d : Int) (w : World) :
    Calls Tryz.prog 62 #[wideV a b, wideV c d] w fun e w' => e = .returned (.int .i64 (orI (cmpI a c) (cmpI b d))) ∧ Below w.heap.size w w' := by
  go_enter Tryz.func62, Tryz.ntmps62
  go_wp2_with fail
  go_region_held3 (fun w' => w'.cell? ⟨w.heap.size, 0, none⟩ = some (.int .u64 a) ∧ w'.cell? ⟨w.heap.size, 1, none⟩ = some (.int .u64 b) ∧ w'.cell? ⟨w.heap.size + 1, 0, none⟩ = some (.int .u64 c) ∧ w'.cell? ⟨w.heap.size + 1, 1, none⟩ = some (.int .u64 d)) (simp [go_sem, World.cell?_alloc_past])
    (first
      | (go_at_call_of 99 (Value.int .u64 a); refine (compare_c a c _).mono ?_; rintro e w' ⟨rfl, rfl⟩)
      | (go_at_call_of 99 (Value.int .u64 b); refine (compare_c b d _).mono ?_; rintro e w' ⟨rfl, rfl⟩)
      | (go_at_call 98; refine (or_c (cmpI a c) (cmpI b d) (w.heap.size + 2) _ (by simp [go_sem]) (by simp [go_sem])).mono ?_; rintro e w' ⟨rfl, rfl⟩))
  go_wp2
  go_ret
  refine ⟨rfl, ?_⟩
  exact ((((Below.refl _ _).alloc (Nat.le_refl _) _).alloc (by simp) _).alloc (by simp; omega) _).drew
def quoI (h l b : Int) : Int := (h * 18446744073709551616 + l) / b
def remI (h l b : Int) : Int := (h * 18446744073709551616 + l) % b
theorem div64_i (h l b : Int) (w : World) (hh : 0 ≤ h) (hl : Word l) (hb : b < 18446744073709551616) (hlt : h < b) :
    Calls Tryz.prog 100 #[.int .u64 h, .int .u64 l, .int .u64 b] w fun e w' => e = .returned (.tuple #[.int .u64 (quoI h l b), .int .u64 (remI h l b)]) ∧ ∃ n, w' = w.drewN n := by
  obtain ⟨l1, l2⟩ := hl
  obtain ⟨h, rfl⟩ := Int.eq_ofNat_of_zero_le hh
  obtain ⟨l, rfl⟩ := Int.eq_ofNat_of_zero_le l1
  obtain ⟨b, rfl⟩ := Int.eq_ofNat_of_zero_le (show 0 ≤ b by omega)
  have e1 : quoI (h : Int) l b = (((h * 18446744073709551616 + l) / b : Nat) : Int) := by unfold quoI; rw [Int.natCast_ediv, Int.natCast_add, Int.natCast_mul]; rfl
  have e2 : remI (h : Int) l b = (((h * 18446744073709551616 + l) % b : Nat) : Int) := by unfold remI; rw [Int.natCast_emod, Int.natCast_add, Int.natCast_mul]; rfl
  rw [e1, e2]
  exact div64 h l b w (by omega) (by omega) (by omega)
theorem over_yes (h l b : Int) (w : World) (hh : 0 ≤ h) (hl : Word l) (hb : b < 18446744073709551616) (hlt : h < b) :
    Calls Tryz.prog 72 #[wideV h l, .int .u64 b] w fun e w' => e = .returned (.tuple #[.int .u64 (quoI h l b), .int .u64 (remI h l b), .bool true]) ∧ Below w.heap.size w w' := by
  have hd : decide ((b : Int) ≤ (h : Int)) = false := by simp only [decide_eq_false_iff_not]; omega
  go_enter Tryz.func72, Tryz.ntmps72
  go_wp2_with (go_at_call 100; refine (div64_i h l b _ hh hl hb hlt).mono ?_; rintro e w' ⟨rfl, n, rfl⟩)
  go_ret3
  exact ⟨rfl, ((Below.refl _ _).alloc (Nat.le_refl _) _).trans ⟨rfl, rfl, rfl, Nat.le_refl _, fun _ _ => rfl⟩⟩
theorem over_no (h l b : Int) (w : World) (hlt : b ≤ h) :
    Calls Tryz.prog 72 #[wideV h l, .int .u64 b] w fun e w' => e = .returned (.tuple #[.int .u64 0, .int .u64 0, .bool false]) ∧ Below w.heap.size w w' := by
  have hd : decide ((b : Int) ≤ (h : Int)) = true := by simp only [decide_eq_true_eq]; omega
  go_enter Tryz.func72, Tryz.ntmps72
  go_wp2_with fail
  go_ret3
  exact ⟨rfl, (Below.refl _ _).alloc (Nat.le_refl _) _⟩
end Go.Proofs.YtfbiblmlcepdlaaGreat

namespace Go.Proofs.YtfbiblmlcepdlaaGreat
open Go.RowKit
theorem fsp_walkS {P : Program} {f : FuncId} {S : Fsp} (hn : ∀ (α : Type) args (k : AOut → Option α), S α args k = (S AOut args some).bind k) (hen : ∀ args w, (callFunc f args).run P w = .ok (.enter f args) w)
    (h : ∀ args out, S AOut args some = some out → args.all AVal.p1 = true ∧ out.plain = true ∧ ∀ w, Calls P f (args.map AVal.v1).toArray w fun e w' => e = out.ending ∧ Below w.heap.size w w') : FspOk P f S where
  enter := hen
  nat := hn
  calls := fun args out hout M w cargs hM hl hr => by
    obtain ⟨h1, h2, h3⟩ := h args out hout
    rw [reps_p1 hl hr h1]
    refine (h3 w).mono ?_
    rintro e w' ⟨rfl, hb⟩
    refine ⟨M, fun _ h => h, fun _ h => .inl h, fun b h => Nat.lt_of_lt_of_le (hM b h) hb.size, hb, ?_⟩
    cases out with
    | ret v => exact ⟨_, rfl, rep_v2 h2⟩
    | pan v => exact ⟨_, rfl, rep_v2 h2⟩
def wB (x : Int) : Bool := decide (0 ≤ x) && decide (x < 18446744073709551616)
theorem wB_iff {x : Int} : wB x = true ↔ Word x := by simp [wB, Word]
def mul64S : Fsp := fun _ args k => match args with
  | [.int .u64 x, .int .u64 y] => bif wB x && wB y then k (.ret (.tup [uN (hiW (x * y)), uN (loW (x * y))])) else none
  | _ => none
theorem mul64S_ok : FspOk Tryz.prog 73 mul64S := fsp_walkS (by intro α args k; unfold mul64S; split <;> simp only [cond_bind, Option.bind_some, Option.bind_none]) (fun args w => by kernel_rfl) fun args out h => by
  unfold mul64S at h
  split at h
  · rename_i x y
    cases hw : wB x && wB y
    · rw [hw] at h; cases h
    · rw [hw] at h; cases h
      simp only [Bool.and_eq_true, wB_iff] at hw
      refine ⟨rfl, rfl, fun w => (mul64 x y hw.1 hw.2 w).mono ?_⟩
      rintro e w' ⟨rfl, rfl⟩
      exact ⟨rfl, Below.refl _ _⟩
  · cases h
def prodS : Fsp := fun _ args k => match args with
  | [.int .u64 x, .int .u64 y] => bif wB x && wB y then k (.ret (.agg [uN (hiW (x * y)), uN (loW (x * y))])) else none
  | _ => none
theorem prodS_ok : FspOk Tryz.prog 42 prodS := fsp_walkS (by intro α args k; unfold prodS; split <;> simp only [cond_bind, Option.bind_some, Option.bind_none]) (fun args w => by kernel_rfl) fun args out h => by
  unfold prodS at h
  split at h
  · rename_i x y
    cases hw : wB x && wB y
    · rw [hw] at h; cases h
    · rw [hw] at h; cases h
      simp only [Bool.and_eq_true, wB_iff] at hw
      refine ⟨rfl, rfl, fun w => (product_c x y w hw.1 hw.2).mono ?_⟩
      rintro e w' ⟨rfl, hb⟩
      exact ⟨rfl, hb⟩
  · cases h
def cmpWS : Fsp := fun _ args k => match args with
  | [.agg [.int .u64 a, .int .u64 b], .agg [.int .u64 c, .int .u64 d]] => k (.ret (.int .i64 (orI (cmpI a c) (cmpI b d))))
  | _ => none
theorem cmpWS_ok : FspOk Tryz.prog 62 cmpWS := fsp_walkS (by intro α args k; unfold cmpWS; split <;> rfl) (fun args w => by kernel_rfl) fun args out h => by
  unfold cmpWS at h
  split at h
  · rename_i a b c d
    cases h
    refine ⟨rfl, rfl, fun w => (wcompare_c a b c d w).mono ?_⟩
    rintro e w' ⟨rfl, hb⟩
    exact ⟨rfl, hb⟩
  · cases h
def overS : Fsp := fun _ args k => match args with
  | [.agg [.int .u64 h, .int .u64 l], .int .u64 d] => bif wB h && wB l && wB d then (bif decide (d ≤ h) then k (.ret (.tup [uN 0, uN 0, bN false])) else k (.ret (.tup [uN (quoI h l d), uN (remI h l d), bN true]))) else none
  | _ => none
theorem overS_ok : FspOk Tryz.prog 72 overS := fsp_walkS (by intro α args k; unfold overS; split <;> simp only [cond_bind, Option.bind_some, Option.bind_none]) (fun args w => by kernel_rfl) fun args out h => by
  unfold overS at h
  split at h
  · rename_i x y d
    cases hw : wB x && wB y && wB d
    · rw [hw] at h; cases h
    · rw [hw] at h
      simp only [Bool.and_eq_true, wB_iff] at hw
      by_cases hd : d ≤ x
      · rw [decide_eq_true hd] at h; cases h
        refine ⟨rfl, rfl, fun w => (over_no x y d w hd).mono ?_⟩
        rintro e w' ⟨rfl, hb⟩
        exact ⟨rfl, hb⟩
      · rw [decide_eq_false hd] at h; cases h
        refine ⟨rfl, rfl, fun w => (over_yes x y d w hw.1.1.1 hw.1.2 hw.2.2 (by omega)).mono ?_⟩
        rintro e w' ⟨rfl, hb⟩
        exact ⟨rfl, hb⟩
  · cases h
def add64E : Fsp := fun _ args k => match args with
  | [.int .u64 x, .int .u64 y, .int .u64 c] => bif wB x && wB y && (decide (0 ≤ c) && decide (c ≤ 1)) then k (.ret (.tup [uN ((x + y + c) % 18446744073709551616), uN ((x + y + c) / 18446744073709551616)])) else none
  | _ => none
theorem add64E_at (cv : Cv) (h : CvOk Tryz.prog cv) (caps : List AVal) : CvAt Tryz.prog (extS add64E cv) (.fn 97 caps) := ext_at (by intro α args k; unfold add64E; split <;> simp only [cond_bind, Option.bind_some, Option.bind_none]) (fun args r h => by
  unfold add64E at h
  split at h
  · rename_i x y c
    cases hw : wB x && wB y && (decide (0 ≤ c) && decide (c ≤ 1))
    · rw [hw] at h; cases h
    · rw [hw] at h; cases h
      simp only [Bool.and_eq_true, wB_iff, decide_eq_true_eq] at hw
      exact ⟨_, rfl, ⟨_, rfl, fun f cs => by simp⟩, rfl, rfl, fun w => add64 x y c hw.1.1.1 hw.1.2.1 hw.2.1 hw.2.2 w⟩
  · cases h) cv h caps
noncomputable def spA : FuncId → Option (Cv → Cv) := fun g => if g = 97 then some (extS add64E) else
  none
theorem spA_ok : SpOk spA := sp_cons add64E_at <|
  sp_nil
def fsA : FuncId → Option Fsp := fun g => if g = 73 then some mul64S else
  if g = 42 then some prodS else
  if g = 62 then some cmpWS else
  if g = 72 then some overS else
  none
theorem fsA_ok : FsOk fsA := fs_cons mul64S_ok <|
  fs_cons prodS_ok <|
  fs_cons cmpWS_ok <|
  fs_cons overS_ok <|
  fs_nil
end Go.Proofs.YtfbiblmlcepdlaaGreat

namespace Go.Proofs.YtfbiblmlcepdlaaGreat
open Go.RowKit
theorem i64w (n : Int) (h : -9223372036854775808 ≤ n ∧ n ≤ 9223372036854775807) : IntKind.i64.wrap n = n := by rw [IntKind.wrap_i64]; omega
theorem u64w (n : Int) (h : 0 ≤ n ∧ n ≤ 18446744073709551615) : IntKind.u64.wrap n = n := by rw [IntKind.wrap_u64]; omega
def vw (h l : Int) : Int := h * 18446744073709551616 + l
theorem vw_hl (n : Int) : vw (hiW n) (loW n) = n := hiW_loW n
def i6 (x : Int) : Bool := decide (-9223372036854775808 ≤ x) && decide (x ≤ 9223372036854775807)
theorem i6_iff {x : Int} : i6 x = true ↔ -9223372036854775808 ≤ x ∧ x ≤ 9223372036854775807 := by simp [i6]
theorem i6_ok {x : Int} (h : okB x = true) : i6 x = true := by rw [ok_iff] at h; rw [i6_iff]; omega
theorem wB_ab {x : Int} (h : i6 x = true) : wB (ab x) = true := by rw [i6_iff] at h; rw [wB_iff]; unfold Word ab; split <;> omega
theorem hi_wB {n : Int} (h : 0 ≤ n ∧ n < 340282366920938463463374607431768211456) : wB (hiW n) = true := wB_iff.2 (hiW_word h.1 h.2)
theorem lo_wB (n : Int) : wB (loW n) = true := wB_iff.2 (loW_word n)
def sizeS : Fsp := fun _ args k => match args with
  | [.int .i64 x] => bif i6 x then k (.ret (.int .u64 (ab x))) else none
  | _ => none
theorem size_plain {α : Type} (x : Int) (hx : i6 x = true) (k : AOut → Option α) : (bif decide (x < 0) then k (AOut.ret (AVal.int IntKind.u64 (IntKind.u64.wrap (0 - IntKind.u64.wrap x)))) else k (AOut.ret (AVal.int IntKind.u64 (IntKind.u64.wrap x)))) = k (.ret (.int .u64 (ab x))) := by
  rw [i6_iff] at hx
  unfold ab
  by_cases h : x < 0
  · rw [decide_eq_true h, if_pos h, cond_true, IntKind.wrap_u64, IntKind.wrap_u64]
    congr 3; omega
  · rw [decide_eq_false h, if_neg h, cond_false, u64w _ (by omega)]
theorem size_text (N n : Nat) (α : Type) (x : Int) (k : AOut → Option α) : evFn real tab ((twT fsA spA).env real tab N n) N Tryz.f43 α [iN x] k =
 bif decide (x < 0) then k (AOut.ret (AVal.int IntKind.u64 (IntKind.u64.wrap (0 - IntKind.u64.wrap x)))) else k (AOut.ret (AVal.int IntKind.u64 (IntKind.u64.wrap x))) := by
 kernel_rfl
theorem sizeS_ok : FspOk Tryz.prog 43 sizeS := tower_S fsA_ok spA_ok ⟨Tryz.func43, fun _ _ => by kernel_rfl⟩ (by intro α args k; unfold sizeS; split <;> simp only [cond_bind, Option.bind_some, Option.bind_none]) fun args out hs h => by
  unfold sizeS at h
  split at h
  · rename_i x
    cases hx : i6 x
    · rw [hx] at h; cases h
    · rw [hx] at h; exact ⟨1, 1, (size_text 1 1 AOut x some).trans ((size_plain x hx some).trans h)⟩
  · cases h
theorem isize_text (N n : Nat) (α : Type) (x : Int) (k : AOut → Option α) : evFn real tab ((twT fsA spA).env real tab N n) N Tryz.f44 α [iN x] k =
 bif decide (x < 0) then k (AOut.ret (AVal.int IntKind.u64 (IntKind.u64.wrap (0 - IntKind.u64.wrap x)))) else k (AOut.ret (AVal.int IntKind.u64 (IntKind.u64.wrap x))) := by
 kernel_rfl
theorem isizeS_ok : FspOk Tryz.prog 44 sizeS := tower_S fsA_ok spA_ok ⟨Tryz.func44, fun _ _ => by kernel_rfl⟩ (by intro α args k; unfold sizeS; split <;> simp only [cond_bind, Option.bind_some, Option.bind_none]) fun args out hs h => by
  unfold sizeS at h
  split at h
  · rename_i x
    cases hx : i6 x
    · rw [hx] at h; cases h
    · rw [hx] at h; exact ⟨1, 1, (isize_text 1 1 AOut x some).trans ((size_plain x hx some).trans h)⟩
  · cases h
def signedS : Fsp := fun _ args k => match args with
  | [.int .u64 n, .bool neg] => bif wB n then (bif fxB n then k (i1 (sg neg n)) else k (mis fxm 4)) else none
  | _ => none
theorem signed_fin {n : Int} (neg : Bool) (h0 : 0 ≤ n) (h1 : n ≤ 70368744177664) {α : Type} (k : AOut → Option α) : (bif neg then k (AOut.ret (AVal.int IntKind.i64 (IntKind.i64.wrap (0 - IntKind.i64.wrap n)))) else k (AOut.ret (AVal.int IntKind.i64 (IntKind.i64.wrap n)))) = k (i1 (sg neg n)) := by
  cases neg
  · rw [cond_false, i64w _ (by omega)]; rfl
  · rw [cond_true, i64w n (by omega), i64w _ (by omega), Int.zero_sub]; rfl
theorem signed_text (N n : Nat) (α : Type) (x : Int) (b : Bool) (k : AOut → Option α) : evFn real tab ((twT fsA spA).env real tab N (n + 1)) N Tryz.f63 α [uN x, .bool b] k =
 bif !decide (x ≤ 70368744177664) then k (mis fxm 4) else bif b then k (AOut.ret (AVal.int IntKind.i64 (IntKind.i64.wrap (0 - IntKind.i64.wrap x)))) else k (AOut.ret (AVal.int
 IntKind.i64 (IntKind.i64.wrap x))) := by kernel_rfl
theorem signedS_ok : FspOk Tryz.prog 63 signedS := tower_S fsA_ok spA_ok ⟨Tryz.func63, fun _ _ => by kernel_rfl⟩ (by intro α args k; unfold signedS; split <;> simp only [cond_bind, Option.bind_some, Option.bind_none]) fun args out hs h => by
  unfold signedS at h
  split at h
  · rename_i x b
    cases hx : wB x
    · rw [hx] at h; cases h
    · rw [hx] at h
      rw [wB_iff] at hx
      refine ⟨1, 2, (signed_text 1 1 AOut x b some).trans ?_⟩
      rw [cond_true] at h
      rw [← h]
      unfold fxB
      by_cases hd : x ≤ 70368744177664
      · rw [decide_eq_true hd, Bool.not_true, cond_false, cond_true, signed_fin b hx.1 hd]
      · rw [decide_eq_false hd, Bool.not_false, cond_false, cond_true]
  · cases h
def rightS : Fsp := fun _ args k => match args with
  | [.ro (.int .i64) xs] => bif List.all (α := Int) xs okB then k t0 else k (mis fxm 2)
  | _ => none
theorem right_text (N n : Nat) (α : Type) (x : List Int) (k : AOut → Option α) : evFn real tab ((twT fsA spA).env real tab N (n + 1)) N Tryz.f39 α [.ro (.int .i64) x] k =
 afterL (iterL N (fun y : Int × Unit => bif decide (y.1 < (x.length : Int)) then if 0 ≤ y.1 ∧ y.1 < (x.length : Int) then bif decide (x.getD y.1.toNat (Int.ofNat 0) ≥
 -70368744177664) then bif !decide (x.getD y.1.toNat (Int.ofNat 0) ≤ 70368744177664) then finL (k (mis fxm 2)) else some (LRes.cont (IntKind.i64.wrap (y.1 + 1), ())) else finL (k
 (mis fxm 2)) else none else some (LRes.brk 0 (y.1, ()))) (0, ())) fun id _ => if id = 0 then k (AOut.ret (AVal.tup [])) else none := by kernel_rfl
theorem right_plain {α : Type} (x : List Int) (hl : x.length ≤ maxLen) (k : AOut → Option α) : evFn real tab ((twT fsA spA).env real tab (x.length + 1) 2) (x.length + 1) Tryz.f39 α [.ro (.int .i64) x] k = bif x.all okB then k t0 else k (mis fxm 2) := by
  rw [right_text]
  generalize hf : (fun y : Int × Unit => (_ : Option (LRes (Int × Unit) α))) = f
  have e : iterL (x.length + 1) f (0, ()) = bif (List.range x.length).any (fun i => !okB (x.getD i 0)) then finL (k (mis fxm 2)) else some (.brk 0 ((x.length : Int), ())) := by
    refine iterL_any (f := f) (fun i : Nat => ((i : Int), ())) _ (fin_not _) (brk_not _ _) x.length (fun i hi => ?_) ?_
    · rw [← hf]
      have h1 : decide ((i : Int) < (x.length : Int)) = true := decide_eq_true (by omega)
      have h2 : IntKind.i64.wrap ((i : Int) + 1) = ((i + 1 : Nat) : Int) := wrap_small (n := i + 1) (by omega)
      simp only [h1, cond_true, h2, show Int.ofNat 0 = 0 from rfl, show ((i : Int)).toNat = i from rfl]
      rw [if_pos ⟨by omega, by omega⟩]
      unfold okB
      by_cases a : -70368744177664 ≤ x.getD i 0
      · rw [decide_eq_true a]
        cases decide (x.getD i 0 ≤ 70368744177664) <;> rfl
      · rw [decide_eq_false a]; rfl
    · rw [← hf]
      have h1 : decide ((x.length : Int) < (x.length : Int)) = false := decide_eq_false (by omega)
      simp only [h1, cond_false]
  rw [e, any_range x fun n => !okB n]
  have : x.any (fun n => !okB n) = !x.all okB := by rw [List.not_all_eq_any_not]
  rw [this]
  cases x.all okB
  · simp only [Bool.not_false, cond_true, cond_false]
    cases k (mis fxm 2) <;> rfl
  · rfl
theorem rightS_ok : FspOk Tryz.prog 39 rightS := tower_S fsA_ok spA_ok ⟨Tryz.func39, fun _ _ => by kernel_rfl⟩ (by intro α args k; unfold rightS; split <;> simp only [cond_bind, Option.bind_some, Option.bind_none]) fun args out hs h => by
  unfold rightS at h
  split at h
  · rename_i x
    exact ⟨_, 2, (right_plain x (hs _ (by simp)).len some).trans h⟩
  · cases h
def plusS : Fsp := fun _ args k => match args with
  | [.agg [.int .u64 a, .int .u64 b], .agg [.int .u64 c, .int .u64 d]] => bif wB a && wB b && wB c && wB d && decide (vw a b + vw c d < 340282366920938463463374607431768211456) then k (.ret (.agg [uN (hiW (vw a b + vw c d)), uN (loW (vw a b + vw c d))])) else none
  | _ => none
theorem plus_text (N n : Nat) (α : Type) (a b c d : Int) (k : AOut → Option α) : evFn real tab ((twT fsA spA).env real tab N (n + 1)) N Tryz.f59 α [.agg [uN a, uN b], .agg [uN c, uN d]] k =
 bif wB b && wB d && (decide ((0 : Int) ≤ 0) && decide ((0 : Int) ≤ 1)) then bif wB a && wB c && (decide (0 ≤ (b + d + 0) / 18446744073709551616) && decide ((b + d + 0) /
 18446744073709551616 ≤ 1)) then k (AOut.ret (AVal.agg [AVal.int IntKind.u64 ((a + c + (b + d + 0) / 18446744073709551616) % 18446744073709551616), AVal.int IntKind.u64 ((b + d + 0)
 % 18446744073709551616)])) else none else none := by kernel_rfl
theorem plusS_ok : FspOk Tryz.prog 59 plusS := tower_S fsA_ok spA_ok ⟨Tryz.func59, fun _ _ => by kernel_rfl⟩ (by intro α args k; unfold plusS; split <;> simp only [cond_bind, Option.bind_some, Option.bind_none]) fun args out hs h => by
  unfold plusS at h
  split at h
  · rename_i a b c d
    cases hx : wB a && wB b && wB c && wB d && decide (vw a b + vw c d < 340282366920938463463374607431768211456)
    · rw [hx] at h; cases h
    · rw [hx, cond_true] at h
      refine ⟨1, 2, (plus_text 1 1 AOut a b c d some).trans (Eq.trans ?_ h)⟩
      simp only [Bool.and_eq_true, decide_eq_true_eq] at hx
      obtain ⟨⟨⟨⟨h1, h2⟩, h3⟩, h4⟩, h5⟩ := hx
      rw [h1, h2, h3, h4]
      rw [wB_iff] at h1 h2 h3 h4
      unfold Word at h1 h2 h3 h4
      unfold vw at h5
      rw [decide_eq_true (show (0 : Int) ≤ (b + d + 0) / 18446744073709551616 by omega), decide_eq_true (show (b + d + 0) / 18446744073709551616 ≤ 1 by omega)]
      have e1 : (a + c + (b + d + 0) / 18446744073709551616) % 18446744073709551616 = hiW (vw a b + vw c d) := by unfold hiW vw; omega
      have e2 : (b + d + 0) % 18446744073709551616 = loW (vw a b + vw c d) := by unfold loW vw; omega
      rw [e1, e2]
      rfl
  · cases h
theorem cmp_vw {a b c d : Int} (hb : Word b) (hd : Word d) : orI (cmpI a c) (cmpI b d) = cmp3 (vw a b) (vw c d) := by
  unfold Word at hb hd
  unfold orI cmpI cmp3 vw
  repeat' split
  all_goals omega
def cmpVS : Fsp := fun _ args k => match args with
  | [.agg [.int .u64 a, .int .u64 b], .agg [.int .u64 c, .int .u64 d]] => bif wB b && wB d then k (.ret (.int .i64 (cmp3 (vw a b) (vw c d)))) else none
  | _ => none
theorem cmpVS_ok : FspOk Tryz.prog 62 cmpVS where
  enter := cmpWS_ok.enter
  nat := by intro α args k; unfold cmpVS; split <;> simp only [cond_bind, Option.bind_some, Option.bind_none]
  calls := fun args out h => cmpWS_ok.calls args out (by
    unfold cmpVS at h
    split at h
    · rename_i a b c d
      cases hx : wB b && wB d
      · rw [hx] at h; cases h
      · rw [hx] at h; cases h
        simp only [Bool.and_eq_true, wB_iff] at hx
        simp only [cmpWS, cmp_vw hx.1 hx.2]
    · cases h)
def howOf (g : Nat) : Option Int :=
  if g = 64 then some 0 else
  if g = 65 then some 1 else
  if g = 66 then some 2 else
  if g = 67 then some 3 else
  none
end Go.Proofs.YtfbiblmlcepdlaaGreat

namespace Go.Proofs.YtfbiblmlcepdlaaGreat
open Go.RowKit
def fsB : FuncId → Option Fsp := fun g =>
  if g = 43 then some sizeS else
  if g = 44 then some sizeS else
  if g = 63 then some signedS else
  if g = 39 then some rightS else
  if g = 59 then some plusS else
  if g = 62 then some cmpVS else fsA g
theorem fsB_ok : FsOk fsB :=
  fs_cons sizeS_ok <|
  fs_cons isizeS_ok <|
  fs_cons signedS_ok <|
  fs_cons rightS_ok <|
  fs_cons plusS_ok <|
  fs_cons cmpVS_ok <|
  fsA_ok
def rndP (how : Int) (neg : Bool) (n d : Int) : Int := bif decide (n / d < 18446744073709551616) then rnd how neg n d % 18446744073709551616 else 18446744073709551616
def fitK {α : Type} (neg : Bool) (n : Int) (k : AOut → Option α) : Option α := bif fxB n then k (i1 (sg neg n)) else k (mis fxm 4)
def qEnd {α : Type} (q : Int) (neg : Bool) (k : AOut → Option α) : Option α := bif wB q then fitK neg q k else none
theorem fitK_bind {α β : Type} (neg : Bool) (n : Int) (k : AOut → Option α) (K : α → Option β) : (fitK neg n k).bind K = fitK neg n fun o => (k o).bind K := by unfold fitK; rw [cond_bind]
def quotS : Fsp := fun _ args k => match args with
  | [.agg [.int .u64 h, .int .u64 l], .int .u64 d, .bool neg, .fn g []] =>
    match howOf g with
    | some how => bif wB h && wB l && wB d && decide (0 < d) then fitK neg (rndP how neg (vw h l) d) k else none
    | none => none
  | _ => none
theorem qEnd_of {α : Type} {q : Int} (neg : Bool) (k : AOut → Option α) (h : 0 ≤ q ∧ q < 18446744073709551616) : qEnd q neg k = fitK neg q k := by
  unfold qEnd
  rw [wB_iff.2 h, cond_true]
theorem rem_mod {h l d : Int} : remI h l d = vw h l % d := rfl
theorem quot_big {how : Int} {neg : Bool} {h l d : Int} (h0 : 0 < d) (hl : Word l) (hd : d ≤ h) {α : Type} (k : AOut → Option α) : fitK neg (rndP how neg (vw h l) d) k = k (mis fxm 4) := by
  have : ¬ vw h l / d < 18446744073709551616 := by
    have e : 18446744073709551616 * d ≤ vw h l := by unfold vw; unfold Word at hl; omega
    have := Int.le_ediv_of_mul_le h0 e
    omega
  unfold rndP
  rw [decide_eq_false this]
  rfl
theorem quot_small {how : Int} {neg : Bool} {h l d : Int} (hh : Word h) (hl : Word l) (hd : h < d) {b : Bool} (hb : up1 how neg (remI h l d) d = b) : rndP how neg (vw h l) d = (quoI h l d + bif b then 1 else 0) % 18446744073709551616 ∧ 0 ≤ quoI h l d ∧ quoI h l d < 18446744073709551616 := by
  unfold Word at hh hl
  have h1 : vw h l / d < 18446744073709551616 := by
    refine Int.ediv_lt_of_lt_mul (by omega) ?_
    unfold vw
    have : (h + 1) * 18446744073709551616 ≤ d * 18446744073709551616 := Int.mul_le_mul_of_nonneg_right (by omega) (by omega)
    rw [Int.mul_comm 18446744073709551616]
    omega
  have h2 : 0 ≤ vw h l / d := Int.ediv_nonneg (by unfold vw; omega) (by omega)
  refine ⟨?_, h2, h1⟩
  unfold rndP rnd
  rw [decide_eq_true h1, cond_true, ← rem_mod, hb]
  rfl
theorem quot_up {α : Type} {q : Int} (neg b : Bool) (k : AOut → Option α) (h : 0 ≤ q ∧ q < 18446744073709551616) : (bif b then qEnd (IntKind.u64.wrap (q + 1)) neg k else qEnd q neg k) = fitK neg ((q + bif b then 1 else 0) % 18446744073709551616) k := by
  cases b
  · rw [cond_false, cond_false, qEnd_of _ _ h, Int.add_zero, show q % 18446744073709551616 = q by omega]
  · rw [cond_true, cond_true, IntKind.wrap_u64, qEnd_of _ _ (by omega)]
theorem quot_plain {α : Type} {h l d : Int} {neg : Bool} {how : Int} (hx : (wB h && wB l && wB d && decide (0 < d)) = true) (m : Bool) (hm : 0 < remI h l d → up1 how neg (remI h l d) d = m) (k : AOut → Option α) (M : Option α)
    (hM : M = bif m then qEnd (IntKind.u64.wrap (quoI h l d + 1)) neg k else qEnd (quoI h l d) neg k) :
    (bif wB h && wB l && wB d then
      bif decide (d ≤ h) then k (mis fxm 4)
      else
        bif decide (remI h l d > 0) then
          bif wB 0 && wB (remI h l d) && wB 0 && wB (remI h l d) && decide (vw 0 (remI h l d) + vw 0 (remI h l d) < 340282366920938463463374607431768211456) then
            bif wB (loW (vw 0 (remI h l d) + vw 0 (remI h l d))) && wB d then M
            else none
          else none
        else qEnd (quoI h l d) neg k
    else none) = fitK neg (rndP how neg (vw h l) d) k := by
  simp only [Bool.and_eq_true, decide_eq_true_eq] at hx
  obtain ⟨⟨⟨h1, h2⟩, h3⟩, h4⟩ := hx
  rw [h1, h2, h3]
  rw [wB_iff] at h1 h2 h3
  simp only [Bool.and_self, cond_true]
  by_cases hd : d ≤ h
  · rw [decide_eq_true hd, cond_true, quot_big h4 h2 hd]
  · rw [decide_eq_false hd, cond_false]
    have r0 := Int.emod_nonneg (vw h l) (show d ≠ 0 by omega)
    have r1 := Int.emod_lt_of_pos (vw h l) h4
    rw [← rem_mod] at r0 r1
    by_cases hr : 0 < remI h l d
    · have hw : wB (remI h l d) = true := wB_iff.2 (by unfold Word at *; omega)
      rw [decide_eq_true (show remI h l d > 0 from hr), cond_true, hw, wB_iff.2 (show Word 0 by unfold Word; omega), decide_eq_true (show vw 0 (remI h l d) + vw 0 (remI h l d) < 340282366920938463463374607431768211456 by unfold vw; unfold Word at h3; omega), lo_wB]
      simp only [Bool.and_self, cond_true, hM]
      obtain ⟨e1, e2⟩ := quot_small (neg := neg) h1 h2 (by omega) (hm hr)
      rw [quot_up _ _ _ e2, e1]
    · rw [decide_eq_false (show ¬ remI h l d > 0 from hr), cond_false]
      have hu : up1 how neg (remI h l d) d = false := by unfold up1; rw [decide_eq_false hr]; rfl
      obtain ⟨e1, e2⟩ := quot_small (neg := neg) h1 h2 (by omega) hu
      rw [qEnd_of _ _ e2, e1, cond_false, Int.add_zero, show quoI h l d % 18446744073709551616 = quoI h l d by omega]
theorem quot0_text (N n : Nat) (α : Type) (h l d : Int) (neg : Bool) (k : AOut → Option α) : evFn real tab ((twT fsB spA).env real tab N (n + 2)) N Tryz.f41 α [.agg [uN h, uN l], uN d, .bool neg, .fn 64 []] k =
 bif wB h && wB l && wB d then bif decide (d ≤ h) then k (mis fxm 4) else bif decide (remI h l d > 0) then bif wB 0 && wB (remI h l d) && wB 0 && wB (remI h l d) && decide (vw 0
 (remI h l d) + vw 0 (remI h l d) < 340282366920938463463374607431768211456) then bif wB (loW (vw 0 (remI h l d) + vw 0 (remI h l d))) && wB d then qEnd (quoI h l d) neg k else none
 else none else qEnd (quoI h l d) neg k else none := by kernel_rfl
theorem quot0_plain (N n : Nat) (α : Type) (h l d : Int) (neg : Bool) (hx : (wB h && wB l && wB d && decide (0 < d)) = true) (k : AOut → Option α) : evFn real tab ((twT fsB spA).env real tab N (n + 2)) N Tryz.f41 α [.agg [uN h, uN l], uN d, .bool neg, .fn 64 []] k = fitK neg (rndP 0 neg (vw h l) d) k :=
  (quot0_text N n α h l d neg k).trans (quot_plain hx (false) (fun hr => by unfold up1; rw [decide_eq_true hr]; rfl) k _ rfl)
theorem quot1_text (N n : Nat) (α : Type) (h l d : Int) (neg : Bool) (k : AOut → Option α) : evFn real tab ((twT fsB spA).env real tab N (n + 2)) N Tryz.f41 α [.agg [uN h, uN l], uN d, .bool neg, .fn 65 []] k =
 bif wB h && wB l && wB d then bif decide (d ≤ h) then k (mis fxm 4) else bif decide (remI h l d > 0) then bif wB 0 && wB (remI h l d) && wB 0 && wB (remI h l d) && decide (vw 0
 (remI h l d) + vw 0 (remI h l d) < 340282366920938463463374607431768211456) then bif wB (loW (vw 0 (remI h l d) + vw 0 (remI h l d))) && wB d then bif neg then qEnd
 (IntKind.u64.wrap (quoI h l d + 1)) neg k else qEnd (quoI h l d) neg k else none else none else qEnd (quoI h l d) neg k else none := by kernel_rfl
theorem quot1_plain (N n : Nat) (α : Type) (h l d : Int) (neg : Bool) (hx : (wB h && wB l && wB d && decide (0 < d)) = true) (k : AOut → Option α) : evFn real tab ((twT fsB spA).env real tab N (n + 2)) N Tryz.f41 α [.agg [uN h, uN l], uN d, .bool neg, .fn 65 []] k = fitK neg (rndP 1 neg (vw h l) d) k :=
  (quot1_text N n α h l d neg k).trans (quot_plain hx (neg) (fun hr => by unfold up1; rw [decide_eq_true hr]; rfl) k _ rfl)
theorem quot2_text (N n : Nat) (α : Type) (h l d : Int) (neg : Bool) (k : AOut → Option α) : evFn real tab ((twT fsB spA).env real tab N (n + 2)) N Tryz.f41 α [.agg [uN h, uN l], uN d, .bool neg, .fn 66 []] k =
 bif wB h && wB l && wB d then bif decide (d ≤ h) then k (mis fxm 4) else bif decide (remI h l d > 0) then bif wB 0 && wB (remI h l d) && wB 0 && wB (remI h l d) && decide (vw 0
 (remI h l d) + vw 0 (remI h l d) < 340282366920938463463374607431768211456) then bif wB (loW (vw 0 (remI h l d) + vw 0 (remI h l d))) && wB d then bif !neg then qEnd
 (IntKind.u64.wrap (quoI h l d + 1)) neg k else qEnd (quoI h l d) neg k else none else none else qEnd (quoI h l d) neg k else none := by kernel_rfl
theorem quot2_plain (N n : Nat) (α : Type) (h l d : Int) (neg : Bool) (hx : (wB h && wB l && wB d && decide (0 < d)) = true) (k : AOut → Option α) : evFn real tab ((twT fsB spA).env real tab N (n + 2)) N Tryz.f41 α [.agg [uN h, uN l], uN d, .bool neg, .fn 66 []] k = fitK neg (rndP 2 neg (vw h l) d) k :=
  (quot2_text N n α h l d neg k).trans (quot_plain hx (!neg) (fun hr => by unfold up1; rw [decide_eq_true hr]; rfl) k _ rfl)
theorem quot3_text (N n : Nat) (α : Type) (h l d : Int) (neg : Bool) (k : AOut → Option α) : evFn real tab ((twT fsB spA).env real tab N (n + 2)) N Tryz.f41 α [.agg [uN h, uN l], uN d, .bool neg, .fn 67 []] k =
 bif wB h && wB l && wB d then bif decide (d ≤ h) then k (mis fxm 4) else bif decide (remI h l d > 0) then bif wB 0 && wB (remI h l d) && wB 0 && wB (remI h l d) && decide (vw 0
 (remI h l d) + vw 0 (remI h l d) < 340282366920938463463374607431768211456) then bif wB (loW (vw 0 (remI h l d) + vw 0 (remI h l d))) && wB d then bif decide (cmp3 (vw (hiW (vw 0
 (remI h l d) + vw 0 (remI h l d))) (loW (vw 0 (remI h l d) + vw 0 (remI h l d)))) (vw 0 d) ≥ 0) then qEnd (IntKind.u64.wrap (quoI h l d + 1)) neg k else qEnd (quoI h l d) neg k else
 none else none else qEnd (quoI h l d) neg k else none := by kernel_rfl
theorem quot3_plain (N n : Nat) (α : Type) (h l d : Int) (neg : Bool) (hx : (wB h && wB l && wB d && decide (0 < d)) = true) (k : AOut → Option α) : evFn real tab ((twT fsB spA).env real tab N (n + 2)) N Tryz.f41 α [.agg [uN h, uN l], uN d, .bool neg, .fn 67 []] k = fitK neg (rndP 3 neg (vw h l) d) k :=
  (quot3_text N n α h l d neg k).trans (quot_plain hx (decide (cmp3 (vw (hiW (vw 0 (remI h l d) + vw 0 (remI h l d))) (loW (vw 0 (remI h l d) + vw 0 (remI h l d)))) (vw 0 d) ≥ 0)) (fun hr => by
    unfold up1; rw [decide_eq_true hr, vw_hl]
    show decide (d ≤ remI h l d + remI h l d) = _
    rw [decide_eq_decide]; unfold cmp3 vw; repeat' split
    all_goals omega) k _ rfl)
theorem how_cases {g : Nat} {how : Int} (h : howOf g = some how) : False
  ∨ (g = 64 ∧ how = 0)
  ∨ (g = 65 ∧ how = 1)
  ∨ (g = 66 ∧ how = 2)
  ∨ (g = 67 ∧ how = 3)
  := by
  unfold howOf at h
  repeat' split at h
  all_goals first | (cases h; simp [*]; done) | cases h
theorem quotS_ok : FspOk Tryz.prog 41 quotS := tower_S fsB_ok spA_ok ⟨Tryz.func41, fun _ _ => by kernel_rfl⟩ (by intro α args k; unfold quotS; split <;> (try split) <;> simp only [cond_bind, fitK_bind, Option.bind_some, Option.bind_none]) fun args out hs h => by
  unfold quotS at h
  split at h
  · rename_i h1 l d neg g
    split at h
    · rename_i how hg
      cases hx : wB h1 && wB l && wB d && decide (0 < d)
      · rw [hx] at h; cases h
      · rw [hx, cond_true] at h
        rcases how_cases hg with hf
          | ⟨rfl, rfl⟩
          | ⟨rfl, rfl⟩
          | ⟨rfl, rfl⟩
          | ⟨rfl, rfl⟩
        · cases hf
        · exact ⟨1, 2, (quot0_plain 1 0 AOut h1 l d neg hx some).trans h⟩
        · exact ⟨1, 2, (quot1_plain 1 0 AOut h1 l d neg hx some).trans h⟩
        · exact ⟨1, 2, (quot2_plain 1 0 AOut h1 l d neg hx some).trans h⟩
        · exact ⟨1, 2, (quot3_plain 1 0 AOut h1 l d neg hx some).trans h⟩
    · cases h
  · cases h
end Go.Proofs.YtfbiblmlcepdlaaGreat

namespace Go.Proofs.YtfbiblmlcepdlaaGreat
open Go.RowKit
theorem or_add {X Y : Int} (k : Nat) (hX : 0 ≤ X ∧ X < 18446744073709551616) (hk : X % (2 ^ k : Nat) = 0) (hY : 0 ≤ Y ∧ Y < (2 ^ k : Nat)) (hs : X + Y < 18446744073709551616) : IntKind.u64.wrap (((BitVec.ofInt 64 X ||| BitVec.ofInt 64 Y).toNat : Nat) : Int) = X + Y := by
  obtain ⟨x, rfl⟩ := Int.eq_ofNat_of_zero_le hX.1
  obtain ⟨y, rfl⟩ := Int.eq_ofNat_of_zero_le hY.1
  have hy : y < 2 ^ k := by exact_mod_cast hY.2
  have hx : x % 2 ^ k = 0 := by exact_mod_cast hk
  have e : x = 2 ^ k * (x / 2 ^ k) := by have := Nat.div_add_mod x (2 ^ k); omega
  have e1 : (BitVec.ofInt 64 (x : Int)).toNat = x := by rw [BitVec.toNat_ofInt]; have : x < 18446744073709551616 := by omega
                                                        simp; omega
  have e2 : (BitVec.ofInt 64 (y : Int)).toNat = y := by rw [BitVec.toNat_ofInt]; have : y < 18446744073709551616 := by omega
                                                        simp; omega
  rw [BitVec.toNat_or, e1, e2]
  have e3 : x ||| y = x + y := by
    rw [e, ← Nat.two_pow_add_eq_or_of_lt hy]
  rw [e3, u64w _ (by omega)]
  omega
theorem bit_search {α : Type} {f : Int × Int × Unit → Option (LRes (Int × Int × Unit) α)} (p : Nat → Bool) (K : Nat)
    (hf : ∀ n k, n % 2 ^ (k + 1) = 0 → n + 2 ^ (k + 1) ≤ 2 ^ K → p n = true → f ((n : Int), ((2 ^ k : Nat) : Int), ()) = some (.cont (((bif p (n + 2 ^ k) then n + 2 ^ k else n : Nat) : Int), ((2 ^ k / 2 : Nat) : Int), ())))
    (hend : ∀ n : Nat, f ((n : Int), 0, ()) = some (.brk 0 ((n : Int), 0, ()))) :
    ∀ (k : Nat) (n : Nat), n % 2 ^ k = 0 → n + 2 ^ k ≤ 2 ^ K → p n = true → ∀ N, k < N → iterL N f ((n : Int), ((2 ^ k / 2 : Nat) : Int), ()) = some (.brk 0 (((bs p k n : Nat) : Int), 0, ()))
  | 0, n, h1, h2, h3, N, hN => by
    obtain ⟨N, rfl⟩ : ∃ M, N = M + 1 := ⟨N - 1, by omega⟩
    have e : (((2 ^ 0 / 2 : Nat)) : Int) = 0 := rfl
    rw [e]
    simp only [iterL, hend]
    rfl
  | k + 1, n, h1, h2, h3, N, hN => by
    obtain ⟨N, rfl⟩ : ∃ M, N = M + 1 := ⟨N - 1, by omega⟩
    have e0 : 2 ^ (k + 1) / 2 = 2 ^ k := by rw [Nat.pow_succ]; omega
    have e1 : 2 ^ (k + 1) = 2 ^ k + 2 ^ k := by rw [Nat.pow_succ]; omega
    have hd : n % 2 ^ k = 0 := by
      have : (n % 2 ^ (k + 1)) % 2 ^ k = n % 2 ^ k := Nat.mod_mod_of_dvd _ ⟨2, by rw [Nat.pow_succ]⟩
      rw [h1] at this
      simpa using this.symm
    have hf' := hf n k h1 h2 h3
    rw [e0]
    simp only [iterL, hf', bs]
    cases hp : p (n + 2 ^ k)
    · exact bit_search p K hf hend k n hd (by omega) h3 N (by omega)
    · exact bit_search p K hf hend k (n + 2 ^ k) (by rw [Nat.add_mod_right]; exact hd) (by omega) hp N (by omega)
theorem fdiv_pos (a : Int) {b : Int} (hb : 0 ≤ b) : a.fdiv b = a / b := Int.fdiv_eq_ediv_of_nonneg a hb
end Go.Proofs.YtfbiblmlcepdlaaGreat

namespace Go.Proofs.YtfbiblmlcepdlaaGreat
open Go.RowKit
def fsC : FuncId → Option Fsp := fun g =>
  if g = 41 then some quotS else fsB g
theorem fsC_ok : FsOk fsC :=
  fs_cons quotS_ok <|
  fsB_ok
theorem all2 (a b : Int) : List.all [a, b] okB = (okB a && okB b) := by simp
theorem all1 (a : Int) : List.all [a] okB = okB a := by simp
theorem ab_mul_in {a b : Int} (ha : okB a = true) (hb : okB b = true) : 0 ≤ ab a * ab b ∧ ab a * ab b ≤ 4951760157141521099596496896 :=
  ⟨Int.mul_nonneg (ab_nn a) (ab_nn b), Int.mul_le_mul (ok_ab ha) (ok_ab hb) (ab_nn b) (by omega)⟩
def squareS : Fsp := fun _ args k => match args with
  | [.agg [.int .i64 x, .int .i64 y]] => bif okB x && okB y then k (.ret (.agg [uN (hiW (sq2 x y)), uN (loW (sq2 x y))])) else k (mis fxm 2)
  | _ => none
theorem square_text (N n : Nat) (α : Type) (a b : Int) (k : AOut → Option α) : evFn real tab ((twT fsC spA).env real tab N (n + 2)) N Tryz.f30 α [sN a b] k =
 bif [a, b].all okB then bif i6 a then bif i6 a then bif wB (ab a) && wB (ab a) then bif i6 b then bif i6 b then bif wB (ab b) && wB (ab b) then bif wB (hiW (ab a * ab a)) && wB (loW
 (ab a * ab a)) && wB (hiW (ab b * ab b)) && wB (loW (ab b * ab b)) && decide (vw (hiW (ab a * ab a)) (loW (ab a * ab a)) + vw (hiW (ab b * ab b)) (loW (ab b * ab b)) <
 340282366920938463463374607431768211456) then k (AOut.ret (AVal.agg [AVal.int IntKind.u64 (hiW (vw (hiW (ab a * ab a)) (loW (ab a * ab a)) + vw (hiW (ab b * ab b)) (loW (ab b * ab
 b)))), AVal.int IntKind.u64 (loW (vw (hiW (ab a * ab a)) (loW (ab a * ab a)) + vw (hiW (ab b * ab b)) (loW (ab b * ab b))))])) else none else none else none else none else none else
 none else none else k (mis fxm 2) := by kernel_rfl
theorem squareS_ok : FspOk Tryz.prog 30 squareS := tower_S fsC_ok spA_ok ⟨Tryz.func30, fun _ _ => by kernel_rfl⟩ (by intro α args k; unfold squareS; split <;> simp only [cond_bind, Option.bind_some, Option.bind_none]) fun args out hs h => by
  unfold squareS at h
  split at h
  · rename_i x y
    refine ⟨8, 2, (square_text 8 0 AOut x y some).trans (Eq.trans ?_ h)⟩
    rw [all2]
    cases hx : okB x
    · rfl
    · cases hy : okB y
      · rfl
      · have a1 := ab_mul_in hx hx
        have a2 := ab_mul_in hy hy
        simp only [i6_ok hx, i6_ok hy, wB_ab (i6_ok hx), wB_ab (i6_ok hy), hi_wB (show 0 ≤ ab x * ab x ∧ ab x * ab x < _ from ⟨a1.1, by omega⟩), hi_wB (show 0 ≤ ab y * ab y ∧ ab y * ab y < _ from ⟨a2.1, by omega⟩), lo_wB, vw_hl, Bool.and_self, cond_true, decide_eq_true (show ab x * ab x + ab y * ab y < 340282366920938463463374607431768211456 by omega)]
        rfl
  · cases h
end Go.Proofs.YtfbiblmlcepdlaaGreat

namespace Go.Proofs.YtfbiblmlcepdlaaGreat
open Go.RowKit
structure Exd (n D : Nat) (w w' : World) : Prop where
  os : w'.os = w.os
  tape : w'.tape = w.tape
  output : w'.output = w.output
  size : w.heap.size ≤ w'.heap.size
  block : ∀ k, k < n → k ≠ D → w'.heap[k]? = w.heap[k]?
theorem Exd.of {n D : Nat} {w w' : World} (h : Below n w w') : Exd n D w w' := ⟨h.os, h.tape, h.output, h.size, fun k hk _ => h.block k hk⟩
theorem Exd.trans {n D : Nat} {a b c : World} (h : Exd n D a b) (k : Exd n D b c) : Exd n D a c :=
  ⟨k.os.trans h.os, k.tape.trans h.tape, k.output.trans h.output, Nat.le_trans h.size k.size, fun i hi hd => (k.block i hi hd).trans (h.block i hi hd)⟩
theorem Exd.set {n D : Nat} {w : World} (v : Value) : Exd n D w (w.setCell ⟨D, 0, none⟩ v) :=
  ⟨rfl, rfl, rfl, by simp [World.setCell], fun k _ hd => Below.heap_setCell _ _ _ _ hd⟩
theorem hidOf {p : Prop} (h : p) : Hid p := h
theorem cellSet {w : World} {a : Addr} {u : Value} (v : Value) (h : w.cell? a = some u) : (w.setCell a v).cell? a = some v := World.cell?_setCell_same w a v h
end Go.Proofs.YtfbiblmlcepdlaaGreat

namespace Go.Proofs.YtfbiblmlcepdlaaGreat
open Go.RowKit
theorem rep_fn {h g w} {f : FuncId} {caps : List AVal} {z : Value} (r : Rep h g w (.fn f caps) z) : ∃ arr, z = .func (.func f) #[] arr ∧ caps.length = arr.size := by
  cases r with
  | fn _ _ arr hl _ => exact ⟨arr, rfl, hl⟩
end Go.Proofs.YtfbiblmlcepdlaaGreat

namespace Go.Proofs.YtfbiblmlcepdlaaGreat
open Go.RowKit
structure Exe (n D : Nat) (w w' : World) : Prop where
  os : w'.os = w.os
  tape : w'.tape = w.tape
  output : w'.output = w.output
  size : w.heap.size ≤ w'.heap.size
  block : ∀ k, k < n → k ≠ D → k ≠ D + 1 → w'.heap[k]? = w.heap[k]?
theorem Exe.of {n D : Nat} {w w' : World} (h : Below n w w') : Exe n D w w' := ⟨h.os, h.tape, h.output, h.size, fun k hk _ _ => h.block k hk⟩
theorem Exe.trans {n D : Nat} {a b c : World} (h : Exe n D a b) (k : Exe n D b c) : Exe n D a c :=
  ⟨k.os.trans h.os, k.tape.trans h.tape, k.output.trans h.output, Nat.le_trans h.size k.size, fun i hi hd he => (k.block i hi hd he).trans (h.block i hi hd he)⟩
theorem Exe.set {n D : Nat} {w : World} (v : Value) : Exe n D w (w.setCell ⟨D, 0, none⟩ v) :=
  ⟨rfl, rfl, rfl, by simp [World.setCell], fun k _ hd _ => Below.heap_setCell _ _ _ _ hd⟩
theorem Exe.set1 {n D : Nat} {w : World} (v : Value) : Exe n D w (w.setCell ⟨D + 1, 0, none⟩ v) :=
  ⟨rfl, rfl, rfl, by simp [World.setCell], fun k _ _ hd => Below.heap_setCell _ _ _ _ hd⟩
theorem Exe.drew {n D : Nat} {w w' : World} (h : Exe n D w w') : Exe n D w { w' with drawn := w'.drawn + 1 } := ⟨h.os, h.tape, h.output, h.size, h.block⟩
theorem two_kept {w w1 : World} {c1 c2 : Array Value} {t1 t2 : TypeId} (h1 : w1.heap[w.heap.size]? = ((w.alloc (.cells c1 t1)).alloc (.cells c2 t2)).heap[w.heap.size]?) (h2 : w1.heap[w.heap.size + 1]? = ((w.alloc (.cells c1 t1)).alloc (.cells c2 t2)).heap[w.heap.size + 1]?) :
    (∀ i, w1.cell? ⟨w.heap.size, i, none⟩ = c1[i]?) ∧ (∀ i, w1.cell? ⟨w.heap.size + 1, i, none⟩ = c2[i]?) ∧ (∀ i, w1.frozen? ⟨w.heap.size, i, none⟩ = false) ∧ (∀ i, w1.frozen? ⟨w.heap.size + 1, i, none⟩ = false) := by
  refine ⟨fun i => ?_, fun i => ?_, fun i => ?_, fun i => ?_⟩
  · rw [World.cell?_of_block (w' := w1) (a := ⟨w.heap.size, i, none⟩) h1]; simp [go_sem]
  · rw [World.cell?_of_block (w' := w1) (a := ⟨w.heap.size + 1, i, none⟩) h2]; simp [go_sem]
  · rw [World.frozen?_of_block (w' := w1) (a := ⟨w.heap.size, i, none⟩) h1]; simp [go_sem]
  · rw [World.frozen?_of_block (w' := w1) (a := ⟨w.heap.size + 1, i, none⟩) h2]; simp [go_sem]
theorem cellSetNe {w : World} {a b : Addr} (v : Value) (h : a ≠ b) : (w.setCell a v).cell? b = w.cell? b := World.cell?_setCell_other w a b v h
def fxPanic (e : Int) : List PanicEntry := [{ v := .iface 116 (.agg #[.int .i64 e]), recovered := false }]
theorem fxassert_yes (c : Int) (w : World) : (Instr.typeAssert (.iface 116 (.agg #[.int .i64 c])) 20 116 true).run Tryz.prog w = .ok (.tuple #[.agg #[.int .i64 c], .bool true]) w := by kernel_rfl
theorem fxassert_nil (w : World) : (Instr.typeAssert .nilIface 20 116 true).run Tryz.prog w = .ok (.tuple #[.agg #[.int .i64 0], .bool false]) w := by kernel_rfl
theorem fitried1_panic (b : Nat) (x y c : Int) (w : World) (hp : w.cell? ⟨b, 0, none⟩ = some (.int .i64 x)) (hq : w.cell? ⟨b + 1, 0, none⟩ = some (.int .i64 y)) (fp : w.frozen? ⟨b, 0, none⟩ = false) (fq : w.frozen? ⟨b + 1, 0, none⟩ = false) (hqb : b + 1 < w.heap.size) :
    CallsD Tryz.prog 58 #[.pointer (some ⟨b, 0, none⟩), .pointer (some ⟨b + 1, 0, none⟩)] (.panicking (fxPanic c)) w fun e u' w' =>
      e = .returned (.tuple #[]) ∧ u' = .panicking [{ v := .iface 116 (.agg #[.int .i64 c]), recovered := true }] ∧ w'.cell? ⟨b, 0, none⟩ = some (.int .i64 0) ∧ w'.cell? ⟨b + 1, 0, none⟩ = some (.int .i64 c) ∧ Exe w.heap.size b w w' := by
  refine callsD_of_wpS Tryz.func58 rfl fun c₀ cs hu => ?_
  apply wpS_seq
  apply wpS_region
  simp [wpOpsS, go_sem, recoverD, hu, fxPanic, Tryz.ntmps58, Exit.thenS, Array.replicate, List.replicate]
  refine wpS_of_wp ?_
  clear hu
  have hta := fun w => fxassert_yes c w
  have ha : ∀ o, Below w.heap.size w (w.alloc o) := fun o => (Below.refl _ _).alloc (Nat.le_refl _) o
  have hp' : ∀ o, (w.alloc o).cell? ⟨b, 0, none⟩ = some (.int .i64 x) := fun o => ((ha o).cell (p := ⟨b, 0, none⟩) (by simp; omega)).trans hp
  have hq' : ∀ o, (w.alloc o).cell? ⟨b + 1, 0, none⟩ = some (.int .i64 y) := fun o => ((ha o).cell (p := ⟨b + 1, 0, none⟩) (by simp; omega)).trans hq
  have fp' : ∀ o, (w.alloc o).frozen? ⟨b, 0, none⟩ = false := fun o => ((ha o).frozen (p := ⟨b, 0, none⟩) (by simp; omega)).trans fp
  have fq' : ∀ o, (w.alloc o).frozen? ⟨b + 1, 0, none⟩ = false := fun o => ((ha o).frozen (p := ⟨b + 1, 0, none⟩) (by simp; omega)).trans fq
  clear ha
  go_wp2
  go_region
  all_goals
    go_big_unhide
    simp [bodyPostS, results, Tryz.results58, go_sem]
    refine ⟨cellSet _ (hp' _), cellSet (u := .int .i64 y) _ ((cellSetNe _ (by simp)).trans (hq' _)), ?_⟩
    exact (((Exe.of ((Below.refl w.heap.size w).alloc (Nat.le_refl _) _)).trans (.set _)).trans (.set1 _)).drew
theorem fitried1_idle (b : Nat) (w : World) :
    CallsD Tryz.prog 58 #[.pointer (some ⟨b, 0, none⟩), .pointer (some ⟨b + 1, 0, none⟩)] .returning w fun e u' w' =>
      e = .returned (.tuple #[]) ∧ u' = .returning ∧ Below w.heap.size w w' := by
  refine callsD_of_wpS Tryz.func58 rfl fun c₀ cs hu => ?_
  apply wpS_seq
  apply wpS_region
  simp [wpOpsS, go_sem, recoverD, hu, Tryz.ntmps58, Exit.thenS, Array.replicate, List.replicate]
  refine wpS_of_wp ?_
  have hta := fun w => fxassert_nil w
  go_wp2
  all_goals
    simp [bodyPostS, results, Tryz.results58, go_sem]
    exact ⟨.returning, by cases c₀; simp_all, rfl, (Below.refl _ _).alloc (Nat.le_refl _) _⟩
set_option maxHeartbeats 1000000 in
theorem fitried_ok (K : FuncId) (caps : Array Value) (v : Int) (Q : World → Prop) (he : ∀ w, (callFunc K caps).run Tryz.prog w = .ok (.enter K caps) w) (w : World)
    (h : ∀ w1, Below w.heap.size w w1 → w.heap.size + 1 < w1.heap.size → Calls Tryz.prog K caps w1 fun e w' => e = .returned (.int .i64 v) ∧ w'.heap[w.heap.size]? = w1.heap[w.heap.size]? ∧ w'.heap[w.heap.size + 1]? = w1.heap[w.heap.size + 1]? ∧ w1.heap.size ≤ w'.heap.size ∧ Q w') :
    Calls Tryz.prog 28 #[.func (.func K) #[] caps] w fun e w' => e = .returned (.tuple #[.int .i64 v, .int .i64 0]) ∧ ∃ w2, Q w2 ∧ Exe w2.heap.size w.heap.size w2 w' := by
  have hmf : ∀ (fn : Fn) (first cap : Array Value) (w : World), (Instr.makeFunc fn first cap).run Tryz.prog w = .ok (.func fn first cap) w := fun _ _ _ _ => rfl
  have HH := hidOf h
  have hcall : ∀ w, (callFunc K caps).run Tryz.prog w = .ok (.enter K caps) w := he
  clear h he
  go_enter_defers Tryz.func28, Tryz.ntmps28
  go_wp2_with (go_at_fn K; refine (HH.out _ (((Below.refl _ _).alloc (Nat.le_refl _) _).alloc (by simp) _) (by simp)).mono ?_; rintro e w1 ⟨rfl, hb1, hb2, hz1, hq⟩; obtain ⟨hc1, hc2, hf1, hf2⟩ := two_kept hb1 hb2; have hz : w.heap.size + 1 < w1.heap.size := (by simp at hz1; omega); have hd1 := hc1 0; have hd2 := hc2 0)
  refine leaves_cons (f := 58) (args := #[.pointer (some ⟨w.heap.size, 0, none⟩), .pointer (some ⟨w.heap.size + 1, 0, none⟩)]) (by simp) (by simp [go_sem]) ?_
  have hs : ((w1.setCell ⟨w.heap.size, 0, none⟩ (.int .i64 v)).setCell ⟨w.heap.size + 1, 0, none⟩ (.int .i64 0)).heap.size = w1.heap.size := by simp [World.setCell]
  refine (fitried1_idle w.heap.size _).mono ?_
  rintro e u' w2 ⟨rfl, rfl, hb2⟩
  rw [hs] at hb2
  have g1 : w2.cell? ⟨w.heap.size, 0, none⟩ = some (.int .i64 v) := by
    rw [hb2.cell (p := ⟨w.heap.size, 0, none⟩) (by show w.heap.size < _; omega), cellSetNe _ (by simp)]
    exact cellSet _ hd1
  have g2 : w2.cell? ⟨w.heap.size + 1, 0, none⟩ = some (.int .i64 0) := by
    rw [hb2.cell (p := ⟨w.heap.size + 1, 0, none⟩) hz]
    exact cellSet (u := .int .i64 0) _ ((cellSetNe _ (by simp)).trans hd2)
  clear HH hcall hmf hc1 hc2 hf1 hf2 hd1 hd2
  simp [Leaves, settle, results, Tryz.results28, go_sem, g1, g2]
  exact ⟨w1, hq, ((Exe.set _).trans (.set1 _)).trans (Exe.of hb2)⟩
set_option maxHeartbeats 1000000 in
theorem fitried_err (K : FuncId) (caps : Array Value) (c : Int) (Q : World → Prop) (he : ∀ w, (callFunc K caps).run Tryz.prog w = .ok (.enter K caps) w) (w : World)
    (h : ∀ w1, Below w.heap.size w w1 → w.heap.size + 1 < w1.heap.size → Calls Tryz.prog K caps w1 fun e w' => e = .panicked (fxPanic c) ∧ w'.heap[w.heap.size]? = w1.heap[w.heap.size]? ∧ w'.heap[w.heap.size + 1]? = w1.heap[w.heap.size + 1]? ∧ w1.heap.size ≤ w'.heap.size ∧ Q w') :
    Calls Tryz.prog 28 #[.func (.func K) #[] caps] w fun e w' => e = .returned (.tuple #[.int .i64 0, .int .i64 c]) ∧ ∃ w2, Q w2 ∧ Exe w2.heap.size w.heap.size w2 w' := by
  have hmf : ∀ (fn : Fn) (first cap : Array Value) (w : World), (Instr.makeFunc fn first cap).run Tryz.prog w = .ok (.func fn first cap) w := fun _ _ _ _ => rfl
  have HH := hidOf h
  have hcall : ∀ w, (callFunc K caps).run Tryz.prog w = .ok (.enter K caps) w := he
  clear h he
  go_enter_defers Tryz.func28, Tryz.ntmps28
  go_wp2_with (go_at_fn K; refine (HH.out _ (((Below.refl _ _).alloc (Nat.le_refl _) _).alloc (by simp) _) (by simp)).mono ?_; rintro e w1 ⟨rfl, hb1, hb2, hz1, hq⟩; obtain ⟨hc1, hc2, hf1, hf2⟩ := two_kept hb1 hb2; have hz : w.heap.size + 1 < w1.heap.size := (by simp at hz1; omega))
  refine leaves_cons (f := 58) (args := #[.pointer (some ⟨w.heap.size, 0, none⟩), .pointer (some ⟨w.heap.size + 1, 0, none⟩)]) (by simp) (by simp [go_sem]) ?_
  refine (fitried1_panic w.heap.size 0 0 c _ (hc1 0) (hc2 0) (hf1 0) (hf2 0) hz).mono ?_
  rintro e u' w2 ⟨rfl, rfl, g1, g2, hb2⟩
  clear HH hcall hmf hc1 hc2 hf1 hf2
  simp [Leaves, settle, results, Tryz.results28, go_sem, g1, g2]
  exact ⟨w1, hq, hb2⟩
end Go.Proofs.YtfbiblmlcepdlaaGreat

namespace Go.Proofs.YtfbiblmlcepdlaaGreat
open Go.RowKit
theorem le_exe {K K2 : Nat → Prop} {h g} {w w' : World} {D : Nat} (s : St K2 h g w) (hM : ∀ b, g.M b → b ≠ D ∧ b ≠ D + 1) (hK : ∀ b, K b → (b ≠ D ∧ b ≠ D + 1) ∧ K2 b) (e : Exe w.heap.size D w w') : Le K h g w h g w' where
  len := Nat.le_refl _
  here := fun _ h => h
  m := fun _ h => h
  new := fun _ h => .inl h
  mw := fun b hb => e.block b (s.low b hb) (hM b hb).1 (hM b hb).2
  k := fun b hb => e.block b (s.klow b (hK b hb).2) (hK b hb).1.1 (hK b hb).1.2
  box := fun _ wr cs' _ h => ⟨wr, cs', h, rfl, rfl⟩
  row := fun _ wr _ _ xs' _ h => ⟨wr, xs', h, fun _ => rfl, rfl⟩
  lp := fun _ st pend _ _ _ _ _ h => ⟨st, pend, h, rfl⟩
  lockb := fun _ _ h => h
  lockr := fun _ _ _ _ h => h
  os := e.os
  tape := e.tape
  output := e.output
  size := e.size
theorem st_exe {K K2 : Nat → Prop} {h g} {w w' : World} {D : Nat} (s : St K2 h g w) (hD : K2 D ∧ K2 (D + 1)) (hM : ∀ b, g.M b → b ≠ D ∧ b ≠ D + 1) (hK : ∀ b, K b → (b ≠ D ∧ b ≠ D + 1) ∧ K2 b) (e : Exe w.heap.size D w w') : St K h g w' where
  blk := fun i b hb => (s.blk i b hb).mono (le_exe s hM hK e) rfl fun n hd hn => by
    obtain ⟨h1, h2, h3⟩ := s.sep i n ⟨b, hb, hd⟩ hn
    exact e.block n h3 (fun e' => h1 (by rw [e']; exact hD.1)) fun e' => h1 (by rw [e']; exact hD.2)
  inj := s.inj
  sep := fun i n ai hn => by
    obtain ⟨h1, h2, h3⟩ := s.sep i n ai hn
    exact ⟨fun hk => h1 (hK n hk).2, h2, Nat.lt_of_lt_of_le h3 e.size⟩
  low := fun b hb => Nat.lt_of_lt_of_le (s.low b hb) e.size
  klow := fun b hb => Nat.lt_of_lt_of_le (s.klow b (hK b hb).2) e.size
def tried2S (mis : TypeId) (fit : AVal → Bool) (zero : AVal) (cv : Cv) : Cv := fun _ v args h k =>
  match v, args with
  | .fn _ [], [.fn f caps] => cv _ (.fn f caps) [] h fun x u h1 =>
    match x with
    | .normal => if fit u = true then k .normal (.tup [u, .int .i64 0]) h1 else none
    | .pan (.ifc t (.agg [.int .i64 e])) => if t = mis then k .normal (.tup [zero, .int .i64 e]) h1 else none
    | _ => none
  | _, _ => none
structure Tried2Ok (P : Program) (f : FuncId) (mis : TypeId) (fit : AVal → Bool) (zf : AVal → Value) (zero : AVal) (zv : Value) : Prop where
  shape : ∀ h g w u z, fit u = true → Rep h g w u z → z = zf u
  rep : ∀ h g w u, fit u = true → Rep h g w u (zf u)
  repz : ∀ h g w, Rep h g w zero zv
  enter : ∀ args w, (callFunc f args).run P w = .ok (.enter f args) w
  ok : ∀ (K : FuncId) (caps : Array Value) (u : AVal) (Q : World → Prop), fit u = true → (∀ w, (callFunc K caps).run P w = .ok (.enter K caps) w) → ∀ (w : World),
    (∀ w1, Below w.heap.size w w1 → w.heap.size + 1 < w1.heap.size → Calls P K caps w1 fun e w' => e = .returned (zf u) ∧ w'.heap[w.heap.size]? = w1.heap[w.heap.size]? ∧ w'.heap[w.heap.size + 1]? = w1.heap[w.heap.size + 1]? ∧ w1.heap.size ≤ w'.heap.size ∧ Q w') →
    Calls P f #[.func (.func K) #[] caps] w fun e w' => e = .returned (.tuple #[zf u, .int .i64 0]) ∧ ∃ w2, Q w2 ∧ Exe w2.heap.size w.heap.size w2 w'
  err : ∀ (K : FuncId) (caps : Array Value) (c : Int) (Q : World → Prop), (∀ w, (callFunc K caps).run P w = .ok (.enter K caps) w) → ∀ (w : World),
    (∀ w1, Below w.heap.size w w1 → w.heap.size + 1 < w1.heap.size → Calls P K caps w1 fun e w' => e = .panicked [{ v := .iface mis (.agg #[.int .i64 c]), recovered := false }] ∧ w'.heap[w.heap.size]? = w1.heap[w.heap.size]? ∧ w'.heap[w.heap.size + 1]? = w1.heap[w.heap.size + 1]? ∧ w1.heap.size ≤ w'.heap.size ∧ Q w') →
    Calls P f #[.func (.func K) #[] caps] w fun e w' => e = .returned (.tuple #[zv, .int .i64 c]) ∧ ∃ w2, Q w2 ∧ Exe w2.heap.size w.heap.size w2 w'
theorem tried2_at {P : Program} {f : FuncId} {mis : TypeId} {fit : AVal → Bool} {zf : AVal → Value} {zero : AVal} {zv : Value} (ht : Tried2Ok P f mis fit zf zero zv) (cv : Cv) (hcv : CvOk P cv) (caps0 : List AVal) : CvAt P (tried2S mis fit zero cv) (.fn f caps0) where
  nat := fun α args h k => by
    unfold tried2S
    split
    · rename_i f' fk caps heq
      refine (hcv.nat _ (.fn fk caps) [] h _).trans (Eq.trans ?_ (congrArg (fun z : Option (AExit × AVal × List ABlk) => z.bind fun p => k p.1 p.2.1 p.2.2) (hcv.nat _ (.fn fk caps) [] h _).symm))
      cases cv _ (.fn fk caps) [] h tripE with
      | none => rfl
      | some p =>
        obtain ⟨x, u, h1⟩ := p
        simp only [Option.bind_some]
        split
        · split <;> rfl
        · split <;> rfl
        · rfl
    · rfl
  ok := fun args h x u h1 hk K g w fv cargs s hfv hl hr => by
    unfold tried2S at hk
    split at hk
    · rename_i f' fk caps heq
      cases heq
      rw [hcv.nat] at hk
      obtain ⟨carr, rfl, hcl⟩ := rep_fn hfv
      have hc0 : carr = #[] := Array.eq_empty_of_size_eq_zero hcl.symm
      subst hc0
      obtain ⟨l⟩ := cargs
      match l, hl with
      | [z], _ =>
        have hz := hr 0 _ z rfl rfl
        obtain ⟨karr, rfl, hkl⟩ := rep_fn hz
        -- the call below
        have below : ∀ x0 u0, cv _ (.fn fk caps) [] h tripE = some (x0, u0, h1) → ∀ w1, Below w.heap.size w w1 → w.heap.size + 1 < w1.heap.size →
            (∀ w, (callFunc fk karr).run P w = .ok (.enter fk karr) w) ∧ Calls P fk karr w1 (CvPost (fun b => K b ∨ b = w.heap.size ∨ b = w.heap.size + 1) h g w1 h1 x0 u0) := fun x0 u0 hc w1 hb hlt => by
          have s1 := s.below hb g.M (fun _ h => h) (fun _ h => .inl h) fun b hb' => Nat.lt_of_lt_of_le (s.low b hb') hb.size
          have l1 := le_below s hb g.M (fun _ h => h) (fun _ h => .inl h)
          have s2 : St (fun b => K b ∨ b = w.heap.size ∨ b = w.heap.size + 1) h g w1 := {
            blk := s1.blk
            inj := s1.inj
            sep := fun i b ha hn => by
              obtain ⟨a1, a2, a3⟩ := s1.sep i b ha hn
              obtain ⟨_, _, a4⟩ := s.sep i b ha hn
              exact ⟨fun hk => hk.elim a1 fun e => by omega, a2, a3⟩
            low := s1.low
            klow := fun b hb' => hb'.elim (s1.klow b) fun e => by omega }
          rcases hcv.ok (.fn fk caps) [] h x0 u0 h1 hc _ g w1 (.func (.func fk) #[] karr) #[] s2 (hz.mono l1) rfl (fun j c z hc => by simp at hc) with ⟨f2, c2, he, hen, hcall⟩ | ⟨_, _, _, _, _, he, _⟩ | ⟨_, _, _, _, ⟨z, hz, _⟩, _⟩
          · cases he
            simp only [Array.empty_append] at hen hcall
            exact ⟨hen, hcall⟩
          · cases he
          · simp at hz
        have hen : ∀ x0 u0, cv _ (.fn fk caps) [] h tripE = some (x0, u0, h1) → ∀ w, (callFunc fk karr).run P w = .ok (.enter fk karr) w := fun x0 u0 hc =>
          (below x0 u0 hc ((w.alloc (.cells #[] 0)).alloc (.cells #[] 0)) (((Below.refl _ _).alloc (Nat.le_refl _) _).alloc (by simp) _) (by simp)).1
        let Q : World → Prop := fun w2 => ∃ g', St (fun b => K b ∨ b = w.heap.size ∨ b = w.heap.size + 1) h1 g' w2 ∧ Le K h g w h1 g' w2 ∧ ∀ b, g'.M b → b ≠ w.heap.size ∧ b ≠ w.heap.size + 1
        have mkQ : ∀ w1 w2 g', Below w.heap.size w w1 → St (fun b => K b ∨ b = w.heap.size ∨ b = w.heap.size + 1) h1 g' w2 → Le (fun b => K b ∨ b = w.heap.size ∨ b = w.heap.size + 1) h g w1 h1 g' w2 → Q w2 := fun w1 w2 g' hb a1 a2 =>
          ⟨g', a1, (le_below s hb g.M (fun _ h => h) (fun _ h => .inl h)).trans (a2.less fun b hb => .inl hb), fun b hb' => (a2.new b hb').elim (fun h => by have := s.low b h; omega) fun h => ⟨fun e => h (.inr (.inl e)), fun e => h (.inr (.inr e))⟩⟩
        have fin : ∀ (n : Int) (u : AVal) (z : Value) w2 w', (∀ h g w, Rep h g w u z) → Q w2 → Exe w2.heap.size w.heap.size w2 w' → CvPost K h g w h1 .normal (.tup [u, .int .i64 n]) (.returned (.tuple #[z, .int .i64 n])) w' := fun n u z w2 w' hz ⟨g', a1, a2, a3⟩ e => by
          have hK : ∀ b, K b → (b ≠ w.heap.size ∧ b ≠ w.heap.size + 1) ∧ (K b ∨ b = w.heap.size ∨ b = w.heap.size + 1) := fun b hb => ⟨by have := s.klow b hb; omega, .inl hb⟩
          refine ⟨g', st_exe a1 ⟨.inr (.inl rfl), .inr (.inr rfl)⟩ a3 hK e, a2.trans (le_exe a1 a3 hK e), _, rfl, .tup _ _ rfl fun j c x hc hx => ?_⟩
          match j with
          | 0 => cases hc; cases hx; exact hz _ _ _
          | 1 => cases hc; cases hx; exact .int _ _
          | j + 2 => cases hc
        refine .inl ⟨f, #[], rfl, fun w => ht.enter _ w, ?_⟩
        show Calls P f #[.func (.func fk) #[] karr] w _
        cases hc : cv _ (.fn fk caps) [] h tripE with
        | none => rw [hc] at hk; cases hk
        | some p =>
          obtain ⟨x0, u0, h0⟩ := p
          rw [hc] at hk
          simp only [Option.bind_some] at hk
          split at hk
          · split at hk
            · rename_i hfit
              cases hk
              refine (ht.ok fk karr u0 Q hfit (hen _ _ hc) w fun w1 hb hlt => ((below _ _ hc w1 hb hlt).2).mono ?_).mono ?_
              · rintro e w' ⟨g', a1, a2, y, rfl, hy⟩
                have := ht.shape _ _ _ _ _ hfit hy
                subst this
                exact ⟨rfl, a2.k _ (.inr (.inl rfl)), a2.k _ (.inr (.inr rfl)), a2.size, mkQ w1 w' g' hb a1 a2⟩
              · rintro e w' ⟨rfl, w2, hq, hex⟩
                exact fin 0 u0 _ w2 w' (fun h g w => ht.rep h g w u0 hfit) hq hex
            · cases hk
          · rename_i t ee
            split at hk
            · rename_i ht'
              subst ht'
              cases hk
              refine (ht.err fk karr ee Q (hen _ _ hc) w fun w1 hb hlt => ((below _ _ hc w1 hb hlt).2).mono ?_).mono ?_
              · rintro e w' ⟨g', a1, a2, y, rfl, hy⟩
                cases hy with
                | ifc _ _ y hy =>
                  cases hy with
                  | agg _ arr hl' hr' =>
                    have hsz : arr.size = 1 := hl'.symm
                    have e0 := rep_int (hr' 0 _ arr[0] rfl (by simp))
                    have : arr = #[.int .i64 ee] := by
                      obtain ⟨l⟩ := arr
                      match l, hsz with
                      | [q], _ => simp at e0; rw [e0]
                    subst this
                    exact ⟨rfl, a2.k _ (.inr (.inl rfl)), a2.k _ (.inr (.inr rfl)), a2.size, mkQ w1 w' g' hb a1 a2⟩
              · rintro e w' ⟨rfl, w2, hq, hex⟩
                exact fin ee zero _ w2 w' ht.repz hq hex
            · cases hk
          · cases hk
    · cases hk
def fitI : AVal → Bool
  | .int .i64 _ => true
  | _ => false
def valI : AVal → Value
  | .int k n => .int k n
  | _ => .int .i64 0
theorem fitried_tried : Tried2Ok Tryz.prog 28 116 fitI valI (.int .i64 0) (.int .i64 0) where
  shape := fun h g w u z hu hr => by
    unfold fitI at hu
    split at hu
    · exact rep_int hr
    · cases hu
  rep := fun h g w u hu => by
    unfold fitI at hu
    split at hu
    · exact .int _ _
    · cases hu
  repz := fun h g w => .int _ _
  enter := fun args w => by kernel_rfl
  ok := fun K caps u Q hu he w h => by
    unfold fitI at hu
    split at hu
    · exact fitried_ok K caps _ Q he w h
    · cases hu
  err := fun K caps c Q he w h => fitried_err K caps c Q he w h
end Go.Proofs.YtfbiblmlcepdlaaGreat

namespace Go.Proofs.YtfbiblmlcepdlaaGreat
open Go.RowKit
noncomputable def fsD : FuncId → Option Fsp := fun g =>
  if g = 30 then some squareS else
  fsC g
theorem fsD_ok : FsOk fsD :=
  fs_cons squareS_ok <|
  fsC_ok
noncomputable def spB : FuncId → Option (Cv → Cv) := fun g =>
  if g = 28 then some (tried2S fxm fitI (.int .i64 0)) else
  spA g
theorem spB_ok : SpOk spB :=
  sp_cons (fun cv h caps => tried2_at fitried_tried cv h caps) <|
  spA_ok
end Go.Proofs.YtfbiblmlcepdlaaGreat

namespace Go.Proofs.YtfbiblmlcepdlaaGreat
open Go.RowKit
/-! Closures that are called in regions that draw their order. -/
noncomputable def fsE : FuncId → Option Fsp := fun g =>
  fsD g
theorem fsE_ok : FsOk fsE :=
  fsD_ok
/-! Sums and differences of spots. -/
/-! Within. -/
theorem cmp3_le (a b : Int) : decide (cmp3 a b ≤ 0) = decide (a ≤ b) := by
  rw [decide_eq_decide]; unfold cmp3; repeat' split
  all_goals omega
/-! Unit. -/
end Go.Proofs.YtfbiblmlcepdlaaGreat

namespace Go.Proofs.YtfbiblmlcepdlaaGreat
open Go.RowKit
def fitT {α : Type} (neg : Bool) (n : Int) (k : AOut → Option α) : Option α := bif fxB n then k (i2 (sg neg n) 0) else k (i2 0 4)
theorem fitT_eq {α : Type} (neg : Bool) (n : Int) (k : AOut → Option α) : fitT neg n k = k (i2 (fxV neg n) (fxE n)) := by
  unfold fitT fxV fxE; cases fxB n <;> rfl
/-! Times. -/
/-! Dot. -/
/-! Scale. -/
def slP (a n d how : Int) : Int := rndP how (scG a n d) (ab a * ab n) (ab d)
def slOk (a n d : Int) : Bool := okB a && (rateB n && rateB d)
def slV (a n d how : Int) : Int := bif slOk a n d then (bif d == 0 then 0 else fxV (scG a n d) (slP a n d how)) else 0
def slE (a n d how : Int) : Int := bif slOk a n d then (bif d == 0 then 10 else fxE (slP a n d how)) else 2
def scaleS : Fsp := fun _ args k => match args with
  | [.int .i64 a, .int .i64 n, .int .i64 d, .int .i64 how] => bif wayB how then k (i2 (slV a n d how) (slE a n d how)) else none
  | _ => none
def scaleText {α : Type} (x u v how : Int) (k : AOut → Option α) : Option α :=
  bif [x].all okB then
    bif decide (u ≥ -2147483648) then
      bif decide (u ≤ 2147483648) then
        bif decide (v ≥ -2147483648) then
          bif !(decide (v ≤ 2147483648)) then k (i2 0 2)
          else
            bif !(v != 0) then k (i2 0 10)
            else
              bif i6 x then
                bif i6 u then
                  bif wB (ab x) && wB (ab u) then
                    bif i6 v then
                      bif wB (hiW (ab x * ab u)) && wB (loW (ab x * ab u)) && wB (ab v) && decide (0 < ab v) then
                        fitT (!(decide (x < 0) == !(decide (u < 0) == decide (v < 0)))) (rndP how (!(decide (x < 0) == !(decide (u < 0) == decide (v < 0)))) (vw (hiW (ab x * ab u)) (loW (ab x * ab u))) (ab v)) k
                      else none
                    else none
                  else none
                else none
              else none
        else k (i2 0 2)
      else k (i2 0 2)
    else k (i2 0 2)
  else k (i2 0 2)
theorem rate_ok {n : Int} (h : rateB n = true) : okB n = true := by rw [rate_iff] at h; rw [ok_iff]; omega
theorem scale_fin {α : Type} (x u v how : Int) (k : AOut → Option α) : scaleText x u v how k = k (i2 (slV x u v how) (slE x u v how)) := by
  unfold scaleText slV slE slOk
  rw [all1]
  cases hx : okB x
  · rfl
  · have r1 : rateB u = (decide (u ≥ -2147483648) && decide (u ≤ 2147483648)) := rfl
    have r2 : rateB v = (decide (v ≥ -2147483648) && decide (v ≤ 2147483648)) := rfl
    cases hu : rateB u
    · rw [hu] at r1
      cases h1 : decide (u ≥ -2147483648)
      · rfl
      · rw [h1, Bool.true_and] at r1
        rw [← r1]; rfl
    · rw [hu] at r1
      have r1 := Bool.and_eq_true_iff.1 r1.symm
      rw [r1.1, r1.2]
      cases hv : rateB v
      · rw [hv] at r2
        cases h1 : decide (v ≥ -2147483648)
        · rfl
        · rw [h1, Bool.true_and] at r2
          rw [← r2]; rfl
      · rw [hv] at r2
        have r2 := Bool.and_eq_true_iff.1 r2.symm
        rw [r2.1, r2.2]
        by_cases hz : v = 0
        · subst hz; rfl
        · have hu' := rate_ok hu
          have hv' := rate_ok hv
          have p := ab_mul_in hx hu'
          have hav : 0 < ab v := by unfold ab; split <;> omega
          have hb : (v != 0) = true := by simp [hz]
          have hb2 : (v == 0) = false := by simp [hz]
          simp only [hb, hb2, i6_ok hx, i6_ok hu', i6_ok hv', wB_ab (i6_ok hx), wB_ab (i6_ok hu'), wB_ab (i6_ok hv'), lo_wB, vw_hl, hi_wB (show 0 ≤ ab x * ab u ∧ ab x * ab u < _ from ⟨p.1, by omega⟩), decide_eq_true hav, Bool.and_self, cond_true, cond_false, Bool.not_true]
          rw [fitT_eq]
          rfl
theorem scale0_text (N n : Nat) (α : Type) (x u v : Int) (k : AOut → Option α) : evFn real tab ((twT fsE spB).env real tab N (n + 6)) N Tryz.f21 α [iN x, iN u, iN v, iN 0] k = scaleText x u v 0 k := by kernel_rfl
theorem scale1_text (N n : Nat) (α : Type) (x u v : Int) (k : AOut → Option α) : evFn real tab ((twT fsE spB).env real tab N (n + 6)) N Tryz.f21 α [iN x, iN u, iN v, iN 1] k = scaleText x u v 1 k := by kernel_rfl
theorem scale2_text (N n : Nat) (α : Type) (x u v : Int) (k : AOut → Option α) : evFn real tab ((twT fsE spB).env real tab N (n + 6)) N Tryz.f21 α [iN x, iN u, iN v, iN 2] k = scaleText x u v 2 k := by kernel_rfl
theorem scale3_text (N n : Nat) (α : Type) (x u v : Int) (k : AOut → Option α) : evFn real tab ((twT fsE spB).env real tab N (n + 6)) N Tryz.f21 α [iN x, iN u, iN v, iN 3] k = scaleText x u v 3 k := by kernel_rfl
theorem scaleS_ok : FspOk Tryz.prog 21 scaleS := tower_S fsE_ok spB_ok ⟨Tryz.func21, fun _ _ => by kernel_rfl⟩ (by intro α args k; unfold scaleS; split <;> simp only [cond_bind, Option.bind_some, Option.bind_none]) fun args out hs h => by
  unfold scaleS at h
  split at h
  · rename_i x u v how
    cases hw : wayB how
    · rw [hw] at h; cases h
    · rw [hw, cond_true] at h
      rcases way_cases hw with rfl | rfl | rfl | rfl
      · exact ⟨8, 6, (scale0_text 8 0 AOut x u v some).trans ((scale_fin ..).trans h)⟩
      · exact ⟨8, 6, (scale1_text 8 0 AOut x u v some).trans ((scale_fin ..).trans h)⟩
      · exact ⟨8, 6, (scale2_text 8 0 AOut x u v some).trans ((scale_fin ..).trans h)⟩
      · exact ⟨8, 6, (scale3_text 8 0 AOut x u v some).trans ((scale_fin ..).trans h)⟩
  · cases h
end Go.Proofs.YtfbiblmlcepdlaaGreat

namespace Go.Proofs.YtfbiblmlcepdlaaGreat
open Go.RowKit
noncomputable def fsF : FuncId → Option Fsp := fun g =>
  if g = 21 then some scaleS else
  fsE g
theorem fsF_ok : FsOk fsF :=
  fs_cons scaleS_ok <|
  fsE_ok
noncomputable def spC : FuncId → Option (Cv → Cv) := fun g =>
  spB g
theorem spC_ok : SpOk spC :=
  spB_ok
end Go.Proofs.YtfbiblmlcepdlaaGreat

namespace Go.Proofs.YtfbiblmlcepdlaaGreat
theorem mul_in {a b A B : Int} (ha : 0 ≤ a ∧ a ≤ A) (hb : 0 ≤ b ∧ b ≤ B) : 0 ≤ a * b ∧ a * b ≤ A * B := ⟨Int.mul_nonneg ha.1 hb.1, Int.mul_le_mul ha.2 hb.2 hb.1 (by omega)⟩
end Go.Proofs.YtfbiblmlcepdlaaGreat

namespace Go.Proofs.YtfbiblmlcepdlaaGreat
open Go.RowKit
theorem rndP_small {how n d : Int} {neg : Bool} (h0 : 0 ≤ n) (hd : 0 < d) (h : n / d < 18446744073709551614) : rndP how neg n d = rnd how neg n d := by
  have h1 := Int.ediv_nonneg h0 (Int.le_of_lt hd)
  unfold rndP
  rw [decide_eq_true (by omega), cond_true]
  unfold rnd
  cases up1 how neg (n % d) d <;> simp only [cond_true, cond_false] <;> omega
theorem i64_in (n : Int) (h : -9223372036854775808 ≤ n ∧ n ≤ 9223372036854775807) : IntKind.i64.wrap n = n := by rw [IntKind.wrap_i64]; omega
theorem in_dec {a lo hi : Int} : (decide (lo ≤ a) && decide (a ≤ hi)) = true ↔ lo ≤ a ∧ a ≤ hi := by simp
end Go.Proofs.YtfbiblmlcepdlaaGreat

namespace Go.Proofs.YtfbiblmlcepdlaaGreat
open Go.RowKit
theorem wBc_ex : ∃ f : Int → Bool, f = wB := ⟨_, rfl⟩
noncomputable def wBc : Int → Bool := Classical.choose wBc_ex
theorem wBc_eq : wBc = wB := Classical.choose_spec wBc_ex
noncomputable def prodCS : Fsp := fun _ args k => match args with
  | [.int .u64 x, .int .u64 y] => bif wBc x && wBc y then k (.ret (.agg [uN (hiW (x * y)), uN (loW (x * y))])) else none
  | _ => none
theorem prodCS_ok : FspOk Tryz.prog 42 prodCS := by
  have e : prodCS = prodS := by
    unfold prodCS prodS; first | (rw [wBc_eq]; done) | (rw [wBc_eq]; rfl)
  rw [e]; exact prodS_ok
noncomputable def cmpCS : Fsp := fun _ args k => match args with
  | [.agg [.int .u64 a, .int .u64 b], .agg [.int .u64 c, .int .u64 d]] => bif wBc b && wBc d then k (.ret (.int .i64 (cmp3 (vw a b) (vw c d)))) else none
  | _ => none
theorem cmpCS_ok : FspOk Tryz.prog 62 cmpCS := by
  have e : cmpCS = cmpVS := by
    unfold cmpCS cmpVS; first | (rw [wBc_eq]; done) | (rw [wBc_eq]; rfl)
  rw [e]; exact cmpVS_ok
set_option maxRecDepth 100000 in
theorem ways_text (N n0 : Nat) (α : Type) (how : Int) (k : AOut → Option α) : evFn real tab ((twT fsF spC).env real tab N (n0 + 8)) N Tryz.f32 α [.int .i64 how] k =
 bif how == 0 then k (AOut.ret (AVal.fn 64 [])) else bif how == 1 then k (AOut.ret (AVal.fn 65 [])) else bif how == 2 then k (AOut.ret (AVal.fn 66 [])) else bif how == 3 then k
 (AOut.ret (AVal.fn 67 [])) else k (AOut.pan (AVal.ifc 116 (AVal.agg [AVal.int IntKind.i64 2]))) := by kernel_rfl
noncomputable def waysS : Fsp := fun _ args k => match args with
  | [.int .i64 how] => bif how == 0 then k (.ret (.fn 64 [])) else bif how == 1 then k (.ret (.fn 65 [])) else bif how == 2 then k (.ret (.fn 66 [])) else bif how == 3 then k (.ret (.fn 67 [])) else k (mis fxm 2)
  | _ => none
theorem waysS_ok : FspOk Tryz.prog 32 waysS := tower_S fsF_ok spC_ok ⟨Tryz.func32, fun _ _ => by kernel_rfl⟩ (by intro α args k; unfold waysS; split <;> first | rfl | simp only [cond_bind, Option.bind_some]) fun args out hs h => by
  unfold waysS at h
  split at h
  · rename_i how
    exact ⟨8, 8, (ways_text 8 0 AOut how some).trans h⟩
  · cases h
noncomputable def fsL0 : FuncId → Option Fsp := fun g =>
  if g = 32 then some waysS else
  if g = 42 then some prodCS else
  if g = 62 then some cmpCS else
  fsF g
theorem fsL0_ok : FsOk fsL0 :=
  fs_cons waysS_ok <|
  fs_cons prodCS_ok <|
  fs_cons cmpCS_ok <|
  fsF_ok
noncomputable def wrBody {α : Type} (h l n b m : Int) : Option (LRes (Int × Int × Unit) α) :=
  bif decide (b > 0) then
    bif wBc m && wBc m then
      bif wBc (loW (m * m)) && wBc l then
        bif decide (cmp3 (vw (hiW (m * m)) (loW (m * m))) (vw h l) ≤ 0) then some (LRes.cont (m, b.fdiv (2 ^ min (Int.toNat 1) 64), ()))
        else some (LRes.cont (n, b.fdiv (2 ^ min (Int.toNat 1) 64), ()))
      else none
    else none
  else some (LRes.brk 0 (n, b, ()))
set_option maxRecDepth 100000 in
theorem wroot_text (N n0 : Nat) (α : Type) (h l : Int) (k : AOut → Option α) : evFn real tab ((twT fsL0 spC).env real tab N (n0 + 8)) N Tryz.f60 α [.agg [.int .u64 h, .int .u64 l]] k =
 afterL (iterL N (fun x : Int × Int × Unit => wrBody h l x.1 x.2.1 (IntKind.u64.wrap (((BitVec.ofInt 64 x.1 ||| BitVec.ofInt 64 x.2.1).toNat : Nat) : Int))) (0, 4611686018427387904,
 ())) fun id y => if id = 0 then k (.ret (.int .u64 y.1)) else none := by kernel_rfl
def rtB (h l : Int) : Bool := (wB h && wB l) && decide (vw h l < 85070591730234615865843651857942052864)
def rtP (s : Int) (m : Nat) : Bool := decide ((m : Int) * m ≤ s)
theorem rt_bs (s : Int) : rt s = ((bs (rtP s) 63 0 : Nat) : Int) := by rw [rt_C]; rfl
theorem rtP_anti {s : Int} (m n : Nat) (h : n ≤ m) (hm : rtP s m = true) : rtP s n = true := by
  simp only [rtP, decide_eq_true_eq] at hm ⊢
  have : (n : Int) * n ≤ m * m := Int.mul_le_mul (by omega) (by omega) (by omega) (by omega)
  omega
theorem rt_spec {s : Int} (h0 : 0 ≤ s) (h1 : s < 85070591730234615865843651857942052864) : 0 ≤ rt s ∧ rt s * rt s ≤ s ∧ s < (rt s + 1) * (rt s + 1) ∧ rt s < 9223372036854775808 := by
  have p63 : (2 : Nat) ^ 63 = 9223372036854775808 := rfl
  have ht : rtP s (0 + 2 ^ 63) = false := by
    rw [p63, Nat.zero_add]
    simp only [rtP, decide_eq_false_iff_not]
    intro h
    have h : (9223372036854775808 : Int) * 9223372036854775808 ≤ s := h
    omega
  have a := bs_spec (rtP s) (fun m n => rtP_anti m n) 63 0 (by simp [rtP]; exact h0) ht
  rw [p63] at a
  rw [rt_bs]
  generalize bs (rtP s) 63 0 = n at *
  simp only [rtP, decide_eq_true_eq, decide_eq_false_iff_not] at a
  have e : (((n + 1 : Nat) : Int)) = (n : Int) + 1 := by omega
  rw [e] at a
  have hb := a.2.2.2
  exact ⟨by omega, a.1, by omega, by omega⟩
theorem wroot_plain (N n0 : Nat) (α : Type) {h l : Int} (hb : rtB h l = true) (k : AOut → Option α) : evFn real tab ((twT fsL0 spC).env real tab (N + 64) (n0 + 8)) (N + 64) Tryz.f60 α [.agg [uN h, uN l]] k = k (.ret (.int .u64 (rt (vw h l)))) := by
  rw [wroot_text]
  simp only [rtB, Bool.and_eq_true, decide_eq_true_eq, wB_iff] at hb
  obtain ⟨⟨hh, hl⟩, hs⟩ := hb
  have hl' := hl
  unfold Word at hh hl
  have hs0 : 0 ≤ vw h l := by unfold vw; omega
  generalize hf : (fun y : Int × Int × Unit => (_ : Option (LRes (Int × Int × Unit) α))) = f
  have e := bit_search (f := f) (rtP (vw h l)) 63 (fun n k h1 h2 h3 => ?_) (fun n => ?_) 63 0 rfl (by omega) (by simp [rtP]; exact hs0) (N + 64) (by omega)
  · have q0 : (2 ^ 63 / 2 : Nat) = 4611686018427387904 := rfl
    have q1 : ((4611686018427387904 : Nat) : Int) = 4611686018427387904 := rfl
    rw [q0, q1] at e
    have e' : iterL (N + 64) f (0, 4611686018427387904, ()) = some (.brk 0 (((bs (rtP (vw h l)) 63 0 : Nat) : Int), 0, ())) := e
    rw [e', rt_bs]
    rfl
  · rw [← hf]
    have p63 : (2 : Nat) ^ 63 = 9223372036854775808 := rfl
    have hk : 2 ^ (k + 1) = 2 ^ k + 2 ^ k := by rw [Nat.pow_succ]; omega
    have hpos : 0 < 2 ^ k := Nat.two_pow_pos k
    have hor : IntKind.u64.wrap (((BitVec.ofInt 64 (n : Int) ||| BitVec.ofInt 64 ((2 ^ k : Nat) : Int)).toNat : Nat) : Int) = ((n + 2 ^ k : Nat) : Int) := by
      rw [or_add (k + 1) (by omega) (by omega) (by omega) (by omega)]; omega
    have hsh : (((2 ^ k : Nat) : Int)).fdiv (2 ^ min (Int.toNat 1) 64) = ((2 ^ k / 2 : Nat) : Int) := by
      rw [show (2 : Int) ^ min (Int.toNat 1) 64 = 2 from rfl, fdiv_pos _ (by omega)]; omega
    show wrBody h l (n : Int) ((2 ^ k : Nat) : Int) _ = _
    rw [hor]
    unfold wrBody
    rw [hsh, decide_eq_true (show ((2 ^ k : Nat) : Int) > 0 by omega), wBc_eq]
    have w1 : wB ((n + 2 ^ k : Nat) : Int) = true := by rw [wB_iff]; unfold Word; omega
    rw [w1, lo_wB, wB_iff.2 hl', cmp3_le, vw_hl, Bool.and_self, cond_true, cond_true, cond_true]
    show (bif rtP (vw h l) (n + 2 ^ k) then _ else _) = _
    cases rtP (vw h l) (n + 2 ^ k) <;> rfl
  · rw [← hf]
    rfl
noncomputable def rootWS : Fsp := fun _ args k => match args with
  | [.agg [.int .u64 h, .int .u64 l]] => bif rtB h l then k (.ret (.int .u64 (rt (vw h l)))) else none
  | _ => none
theorem rootWS_ok : FspOk Tryz.prog 60 rootWS := tower_S fsL0_ok spC_ok ⟨Tryz.func60, fun _ _ => by kernel_rfl⟩ (by intro α args k; unfold rootWS; split <;> simp only [cond_bind, Option.bind_some, Option.bind_none]) fun args out hs hq => by
  unfold rootWS at hq
  split at hq
  · rename_i h l
    cases hb : rtB h l
    · rw [hb] at hq; cases hq
    · rw [hb, cond_true] at hq
      exact ⟨64, 8, (wroot_plain 0 0 AOut hb some).trans hq⟩
  · cases hq
noncomputable def spL : FuncId → Option (Cv → Cv) := fun g =>
  spC g
theorem spL_ok : SpOk spL :=
  spC_ok
/-! How a way rounds. -/
set_option maxRecDepth 100000 in
theorem way0_text (N n0 : Nat) (α : Type) (x : Int) (b : Bool) (k : AOut → Option α) : evFn real tab ((twT fsL0 spC).env real tab N (n0 + 8)) N Tryz.f64 α [.int .i64 x, .bool b] k =
 k (AOut.ret (AVal.bool false)) := by kernel_rfl
set_option maxRecDepth 100000 in
theorem way1_text (N n0 : Nat) (α : Type) (x : Int) (b : Bool) (k : AOut → Option α) : evFn real tab ((twT fsL0 spC).env real tab N (n0 + 8)) N Tryz.f65 α [.int .i64 x, .bool b] k =
 k (AOut.ret (AVal.bool b)) := by kernel_rfl
set_option maxRecDepth 100000 in
theorem way2_text (N n0 : Nat) (α : Type) (x : Int) (b : Bool) (k : AOut → Option α) : evFn real tab ((twT fsL0 spC).env real tab N (n0 + 8)) N Tryz.f66 α [.int .i64 x, .bool b] k =
 k (AOut.ret (AVal.bool !b)) := by kernel_rfl
set_option maxRecDepth 100000 in
theorem way3_text (N n0 : Nat) (α : Type) (x : Int) (b : Bool) (k : AOut → Option α) : evFn real tab ((twT fsL0 spC).env real tab N (n0 + 8)) N Tryz.f67 α [.int .i64 x, .bool b] k =
 k (AOut.ret (AVal.bool (decide (x ≥ 0)))) := by kernel_rfl
theorem way0_fin (x : Int) (b : Bool) (hs : ∀ c ∈ ([.int .i64 x, .bool b] : List AVal), Sm c) : ∃ N n, ∀ α (k : AOut → Option α), evFn real tab ((twT fsL0 spC).env real tab N n) N Tryz.f64 α [.int .i64 x, .bool b] k = k (b1 false) := by
  exact ⟨8, 8, fun α k => way0_text 8 0 α x b k⟩
noncomputable def way0S : Fsp := fun _ args k => match args with
  | [.int .i64 x, .bool b] => k (b1 false)
  | _ => none
theorem way0S_ok : FspOk Tryz.prog 64 way0S := tower_S fsL0_ok spC_ok ⟨Tryz.func64, fun _ _ => by kernel_rfl⟩ (by intro α args k; unfold way0S; split <;> rfl) fun args out hSm hEq => by
  unfold way0S at hEq
  split at hEq
  · rename_i x b
    obtain ⟨N, n, e⟩ := way0_fin x b hSm
    exact ⟨N, n, (e AOut some).trans hEq⟩
  · cases hEq
theorem way1_fin (x : Int) (b : Bool) (hs : ∀ c ∈ ([.int .i64 x, .bool b] : List AVal), Sm c) : ∃ N n, ∀ α (k : AOut → Option α), evFn real tab ((twT fsL0 spC).env real tab N n) N Tryz.f65 α [.int .i64 x, .bool b] k = k (b1 b) := by
  exact ⟨8, 8, fun α k => way1_text 8 0 α x b k⟩
noncomputable def way1S : Fsp := fun _ args k => match args with
  | [.int .i64 x, .bool b] => k (b1 b)
  | _ => none
theorem way1S_ok : FspOk Tryz.prog 65 way1S := tower_S fsL0_ok spC_ok ⟨Tryz.func65, fun _ _ => by kernel_rfl⟩ (by intro α args k; unfold way1S; split <;> rfl) fun args out hSm hEq => by
  unfold way1S at hEq
  split at hEq
  · rename_i x b
    obtain ⟨N, n, e⟩ := way1_fin x b hSm
    exact ⟨N, n, (e AOut some).trans hEq⟩
  · cases hEq
theorem way2_fin (x : Int) (b : Bool) (hs : ∀ c ∈ ([.int .i64 x, .bool b] : List AVal), Sm c) : ∃ N n, ∀ α (k : AOut → Option α), evFn real tab ((twT fsL0 spC).env real tab N n) N Tryz.f66 α [.int .i64 x, .bool b] k = k (b1 (!b)) := by
  exact ⟨8, 8, fun α k => way2_text 8 0 α x b k⟩
noncomputable def way2S : Fsp := fun _ args k => match args with
  | [.int .i64 x, .bool b] => k (b1 (!b))
  | _ => none
theorem way2S_ok : FspOk Tryz.prog 66 way2S := tower_S fsL0_ok spC_ok ⟨Tryz.func66, fun _ _ => by kernel_rfl⟩ (by intro α args k; unfold way2S; split <;> rfl) fun args out hSm hEq => by
  unfold way2S at hEq
  split at hEq
  · rename_i x b
    obtain ⟨N, n, e⟩ := way2_fin x b hSm
    exact ⟨N, n, (e AOut some).trans hEq⟩
  · cases hEq
theorem way3_fin (x : Int) (b : Bool) (hs : ∀ c ∈ ([.int .i64 x, .bool b] : List AVal), Sm c) : ∃ N n, ∀ α (k : AOut → Option α), evFn real tab ((twT fsL0 spC).env real tab N n) N Tryz.f67 α [.int .i64 x, .bool b] k = k (b1 (decide (x ≥ 0))) := by
  exact ⟨8, 8, fun α k => way3_text 8 0 α x b k⟩
noncomputable def way3S : Fsp := fun _ args k => match args with
  | [.int .i64 x, .bool b] => k (b1 (decide (x ≥ 0)))
  | _ => none
theorem way3S_ok : FspOk Tryz.prog 67 way3S := tower_S fsL0_ok spC_ok ⟨Tryz.func67, fun _ _ => by kernel_rfl⟩ (by intro α args k; unfold way3S; split <;> rfl) fun args out hSm hEq => by
  unfold way3S at hEq
  split at hEq
  · rename_i x b
    obtain ⟨N, n, e⟩ := way3_fin x b hSm
    exact ⟨N, n, (e AOut some).trans hEq⟩
  · cases hEq
set_option maxRecDepth 100000 in
theorem up2_text (N n0 : Nat) (α : Type) (h l : Int) (k : AOut → Option α) : evFn real tab ((twT fsL0 spC).env real tab N (n0 + 8)) N Tryz.f61 α [.agg [.int .u64 h, .int .u64 l], .int .u64 2] k =
 k (AOut.ret (AVal.agg [AVal.int IntKind.u64 (IntKind.u64.wrap (↑(BitVec.ofInt 64 (IntKind.u64.wrap (h * 2 ^ min (Int.toNat 2) 64)) ||| BitVec.ofInt 64 (l.fdiv (2 ^ min
 (IntKind.u64.wrap (64 - 2)).toNat 64))).toNat : Int)), AVal.int IntKind.u64 (IntKind.u64.wrap (l * 2 ^ min (Int.toNat 2) 64))])) := by kernel_rfl
noncomputable def up2S : Fsp := fun _ args k => match args with
  | [.agg [.int .u64 h, .int .u64 l], .int .u64 n] => bif n == 2 && rtB h l then k (.ret (.agg [uN (hiW (4 * vw h l)), uN (loW (4 * vw h l))])) else none
  | _ => none
theorem up2_plain {h l : Int} (hb : rtB h l = true) : IntKind.u64.wrap (((BitVec.ofInt 64 (IntKind.u64.wrap (h * 2 ^ min (Int.toNat 2) 64)) ||| BitVec.ofInt 64 (l.fdiv (2 ^ min (IntKind.u64.wrap (64 - 2)).toNat 64))).toNat : Nat) : Int) = hiW (4 * vw h l) ∧ IntKind.u64.wrap (l * 2 ^ min (Int.toNat 2) 64) = loW (4 * vw h l) := by
  simp only [rtB, Bool.and_eq_true, decide_eq_true_eq, wB_iff] at hb
  obtain ⟨⟨hh, hl⟩, hs⟩ := hb
  unfold Word at hh hl
  have k4 : (2 : Int) ^ min (Int.toNat 2) 64 = 4 := rfl
  have k62 : (2 : Int) ^ min (IntKind.u64.wrap (64 - 2)).toNat 64 = 4611686018427387904 := by
    have : (IntKind.u64.wrap (64 - 2)).toNat = 62 := by rw [IntKind.wrap_u64]; rfl
    rw [this]; rfl
  have hv : vw h l = h * 18446744073709551616 + l := rfl
  rw [hv] at hs ⊢
  rw [k4, k62, fdiv_pos _ (by omega), u64w (h * 4) (by omega), or_add 2 (by omega) (by omega) (by omega) (by omega), IntKind.wrap_u64]
  unfold hiW loW
  exact ⟨by omega, by omega⟩
theorem up2S_ok : FspOk Tryz.prog 61 up2S := tower_S fsL0_ok spC_ok ⟨Tryz.func61, fun _ _ => by kernel_rfl⟩ (by intro α args k; unfold up2S; split <;> simp only [cond_bind, Option.bind_some, Option.bind_none]) fun args out hs hq => by
  unfold up2S at hq
  split at hq
  · rename_i h l n
    by_cases hn : n = 2
    · subst hn
      cases hb : rtB h l
      · rw [hb] at hq; cases hq
      · rw [hb] at hq
        refine ⟨8, 8, (up2_text 8 0 AOut h l some).trans (Eq.trans ?_ hq)⟩
        rw [(up2_plain hb).1, (up2_plain hb).2]
        rfl
    · rw [show (n == 2) = false by simp [hn]] at hq; cases hq
  · cases hq
noncomputable def fsL1 : FuncId → Option Fsp := fun g =>
  if g = 60 then some rootWS else
  if g = 64 then some way0S else
  if g = 65 then some way1S else
  if g = 66 then some way2S else
  if g = 67 then some way3S else
  if g = 61 then some up2S else
  fsL0 g
theorem fsL1_ok : FsOk fsL1 :=
  fs_cons rootWS_ok <|
  fs_cons way0S_ok <|
  fs_cons way1S_ok <|
  fs_cons way2S_ok <|
  fs_cons way3S_ok <|
  fs_cons up2S_ok <|
  fsL0_ok
noncomputable def rEnd {α : Type} (x : Int) (k : AOut → Option α) : Option α := bif wB x then (bif fxB x then k (i1 (sg false x)) else k (mis fxm 4)) else none
noncomputable def rootText {α : Type} (h l r m r1 : Int) (u : Bool) (k : AOut → Option α) : Option α :=
  bif rtB h l then
    bif wBc r && wBc r then
      bif !(hiW (r * r) == h && (loW (r * r) == l && true)) then
        bif (2 : Int) == 2 && rtB h l then
          bif wBc m && wBc m then
            bif wBc (loW (4 * vw h l)) && wBc (loW (m * m)) then (bif u then rEnd r1 k else rEnd r k)
            else none
          else none
        else none
      else rEnd r k
    else none
  else none
noncomputable def upW (how s : Int) : Bool := if how = 2 then true else if how = 3 then decide ((2 * rt s + 1) * (2 * rt s + 1) ≤ 4 * s) else false
theorem ge_cmp3 (a b : Int) : decide (cmp3 a b ≥ 0) = decide (b ≤ a) := by
  unfold cmp3
  rw [decide_eq_decide]
  split
  · constructor <;> intro _ <;> omega
  · split <;> constructor <;> intro _ <;> omega
theorem vw_eq {x h l : Int} (hl : Word l) : (hiW x == h && (loW x == l && true)) = (x == vw h l) := by
  rw [Bool.and_true, Bool.eq_iff_iff, Bool.and_eq_true, beq_iff_eq, beq_iff_eq, beq_iff_eq]
  unfold hiW loW vw
  unfold Word at hl
  constructor
  · rintro ⟨rfl, rfl⟩; omega
  · intro h; subst h; omega
theorem rEnd_of {α : Type} {x : Int} (h : 0 ≤ x ∧ x < 18446744073709551616) (k : AOut → Option α) : rEnd x k = fitK false x k := by
  unfold rEnd; rw [wB_iff.2 h]; rfl
theorem root_fin {α : Type} {h l how : Int} (hb : rtB h l = true) {u : Bool} (hu : u = upW how (vw h l)) (k : AOut → Option α) : rootText h l (rt (vw h l)) (2 * rt (vw h l) + 1) (rt (vw h l) + 1) u k = fitK false (rtN (vw h l) how) k := by
  have hb' := hb
  simp only [rtB, Bool.and_eq_true, decide_eq_true_eq, wB_iff] at hb'
  obtain ⟨⟨hh, hl⟩, hs⟩ := hb'
  have h0 : 0 ≤ vw h l := by unfold vw Word at *; omega
  obtain ⟨a, b, c, d⟩ := rt_spec h0 hs
  unfold rootText
  rw [hb, vw_eq hl, wBc_eq, wB_iff.2 (show Word (rt (vw h l)) from ⟨a, by omega⟩), wB_iff.2 (show Word (2 * rt (vw h l) + 1) from ⟨by omega, by omega⟩), lo_wB, lo_wB, rEnd_of (x := rt (vw h l)) ⟨a, by omega⟩, rEnd_of (x := rt (vw h l) + 1) ⟨by omega, by omega⟩, hu]
  unfold rtN
  generalize vw h l = s at *
  have sq : (2 * rt s + 1) * (2 * rt s + 1) = 4 * (rt s * rt s) + 4 * rt s + 1 := by
    rw [Int.add_mul, Int.mul_add, Int.one_mul, Int.mul_one, show 2 * rt s * (2 * rt s) = 4 * (rt s * rt s) by rw [Int.mul_assoc, Int.mul_left_comm (rt s) 2, ← Int.mul_assoc]; rfl]
    omega
  have e2 : ((2 : Int) == 2) = true := rfl
  unfold upW rtUp
  rw [e2]
  by_cases hq : rt s * rt s = s
  · have e3 : (rt s * rt s == s) = true := by rw [hq]; simp
    have e4 : decide ((2 * rt s + 1) * (2 * rt s + 1) ≤ 4 * s) = false := decide_eq_false (by omega)
    rw [e3, e4]
    split
    · simp
    · split <;> simp
  · have e3 : (rt s * rt s == s) = false := by simpa using hq
    rw [e3]
    split
    · simp
    · split
      · cases decide ((2 * rt s + 1) * (2 * rt s + 1) ≤ 4 * s) <;> simp
      · simp
noncomputable def rootFS : Fsp := fun _ args k => match args with
  | [.agg [.int .u64 h, .int .u64 l], .fn g []] =>
    match howOf g with
    | some how => bif rtB h l then fitK false (rtN (vw h l) how) k else none
    | none => none
  | _ => none
noncomputable abbrev rM (h l : Int) : Int := IntKind.u64.wrap (IntKind.u64.wrap (2 * rt (vw h l)) + 1)
noncomputable abbrev rO (h l : Int) : Int := IntKind.u64.wrap (rt (vw h l) + 1)
set_option maxRecDepth 100000 in
theorem root0_text (N n : Nat) (α : Type) (h l : Int) (k : AOut → Option α) : evFn real tab ((twT fsL1 spC).env real tab N (n + 8)) N Tryz.f31 α [.agg [uN h, uN l], .fn 64 []] k = rootText h l (rt (vw h l)) (rM h l) (rO h l) false k := by kernel_rfl
set_option maxRecDepth 100000 in
theorem root1_text (N n : Nat) (α : Type) (h l : Int) (k : AOut → Option α) : evFn real tab ((twT fsL1 spC).env real tab N (n + 8)) N Tryz.f31 α [.agg [uN h, uN l], .fn 65 []] k = rootText h l (rt (vw h l)) (rM h l) (rO h l) false k := by kernel_rfl
set_option maxRecDepth 100000 in
theorem root2_text (N n : Nat) (α : Type) (h l : Int) (k : AOut → Option α) : evFn real tab ((twT fsL1 spC).env real tab N (n + 8)) N Tryz.f31 α [.agg [uN h, uN l], .fn 66 []] k = rootText h l (rt (vw h l)) (rM h l) (rO h l) true k := by kernel_rfl
set_option maxRecDepth 100000 in
theorem root3_text (N n : Nat) (α : Type) (h l : Int) (k : AOut → Option α) : evFn real tab ((twT fsL1 spC).env real tab N (n + 8)) N Tryz.f31 α [.agg [uN h, uN l], .fn 67 []] k = rootText h l (rt (vw h l)) (rM h l) (rO h l) (decide (cmp3 (vw (hiW (4 * vw h l)) (loW (4 * vw h l))) (vw (hiW (rM h l * rM h l)) (loW (rM h l * rM h l))) ≥ 0)) k := by kernel_rfl
theorem rM_eq {h l : Int} (hb : rtB h l = true) : rM h l = 2 * rt (vw h l) + 1 ∧ rO h l = rt (vw h l) + 1 := by
  simp only [rtB, Bool.and_eq_true, decide_eq_true_eq, wB_iff] at hb
  obtain ⟨⟨hh, hl⟩, hs⟩ := hb
  obtain ⟨a, b, c, d⟩ := rt_spec (s := vw h l) (by unfold vw Word at *; omega) hs
  unfold rM rO
  rw [u64w (2 * rt (vw h l)) (by omega), u64w (2 * rt (vw h l) + 1) (by omega), u64w (rt (vw h l) + 1) (by omega)]
  exact ⟨rfl, rfl⟩
theorem rootFS_ok : FspOk Tryz.prog 31 rootFS := tower_S fsL1_ok spC_ok ⟨Tryz.func31, fun _ _ => by kernel_rfl⟩ (by intro α args k; unfold rootFS; split <;> (try split) <;> simp only [cond_bind, fitK_bind, Option.bind_some, Option.bind_none]) fun args out hs hq => by
  unfold rootFS at hq
  split at hq
  · rename_i h l g
    split at hq
    · rename_i how hg
      cases hb : rtB h l
      · rw [hb] at hq; cases hq
      · rw [hb, cond_true] at hq
        obtain ⟨m1, m2⟩ := rM_eq hb
        rcases how_cases hg with hf | ⟨rfl, rfl⟩ | ⟨rfl, rfl⟩ | ⟨rfl, rfl⟩ | ⟨rfl, rfl⟩
        · cases hf
        · refine ⟨64, 8, (root0_text 64 0 AOut h l some).trans (Eq.trans ?_ hq)⟩
          rw [m1, m2]; exact root_fin (how := 0) hb (by simp [upW]) some
        · refine ⟨64, 8, (root1_text 64 0 AOut h l some).trans (Eq.trans ?_ hq)⟩
          rw [m1, m2]; exact root_fin (how := 1) hb (by simp [upW]) some
        · refine ⟨64, 8, (root2_text 64 0 AOut h l some).trans (Eq.trans ?_ hq)⟩
          rw [m1, m2]; exact root_fin (how := 2) hb (by simp [upW]) some
        · refine ⟨64, 8, (root3_text 64 0 AOut h l some).trans (Eq.trans ?_ hq)⟩
          rw [m1, m2, vw_hl, vw_hl, ge_cmp3]; exact root_fin (how := 3) hb (by simp [upW]) some
    · cases hq
  · cases hq
noncomputable def fsL2 : FuncId → Option Fsp := fun g =>
  if g = 31 then some rootFS else
  fsL1 g
theorem fsL2_ok : FsOk fsL2 :=
  fs_cons rootFS_ok <|
  fsL1_ok
noncomputable def rtBr {α : Type} (h l how : Int) (k : AOut → Option α) : Option α :=
  bif rtB h l then
    bif fxB (rtN (vw h l) how) then k (i2 (sg false (rtN (vw h l) how)) 0) else k (i2 0 4)
  else none
noncomputable def by4 {α : Type} (how : Int) (B : Int → Option α) (E : Option α) : Option α := bif how == 0 then B 0 else bif how == 1 then B 1 else bif how == 2 then B 2 else bif how == 3 then B 3 else E
theorem by4_eq {α : Type} (how : Int) (B : Int → Option α) (E : Option α) : by4 how B E = bif wayB how then B how else E := by
  unfold by4
  cases hw : wayB how
  · have h0 : ¬ (0 ≤ how ∧ how ≤ 3) := fun h => by rw [show wayB how = true by simp [wayB]; omega] at hw; cases hw
    rw [show (how == 0) = false by simp; omega, show (how == 1) = false by simp; omega, show (how == 2) = false by simp; omega, show (how == 3) = false by simp; omega]
    rfl
  · rcases way_cases hw with rfl | rfl | rfl | rfl <;> rfl
theorem rtBr_eq {α : Type} {s : Int} (how : Int) (h0 : 0 ≤ s) (h1 : s < 85070591730234615865843651857942052864) (k : AOut → Option α) : rtBr (hiW s) (loW s) how k = k (i2 (fxV false (rtN s how)) (fxE (rtN s how))) := by
  have hb : rtB (hiW s) (loW s) = true := by
    unfold rtB
    rw [hi_wB ⟨h0, by omega⟩, lo_wB, vw_hl, decide_eq_true h1]; rfl
  unfold rtBr
  rw [hb, vw_hl]
  unfold fxV fxE
  cases fxB (rtN s how) <;> rfl
set_option maxRecDepth 100000 in
theorem flen_text (N n0 : Nat) (α : Type) (x y how : Int) (k : AOut → Option α) : evFn real tab ((twT fsL2 spL).env real tab N (n0 + 8)) N Tryz.f16 α [.agg [.int .i64 x, .int .i64 y], .int .i64 how] k =
 bif okB x && okB y then by4 how (fun how => rtBr (hiW (sq2 x y)) (loW (sq2 x y)) how k) (k (i2 0 2)) else k (i2 0 2) := by kernel_rfl
theorem sq2_in' {x y : Int} (hx : okB x = true) (hy : okB y = true) : 0 ≤ sq2 x y ∧ sq2 x y ≤ 9903520314283042199192993792 := by
  have a := ab_mul_in hx hx
  have b := ab_mul_in hy hy
  unfold sq2
  omega
theorem flen_fin (x y how : Int) (hs : ∀ c ∈ ([.agg [.int .i64 x, .int .i64 y], .int .i64 how] : List AVal), Sm c) : ∃ N n, ∀ α (k : AOut → Option α), evFn real tab ((twT fsL2 spL).env real tab N n) N Tryz.f16 α [.agg [.int .i64 x, .int .i64 y], .int .i64 how] k = k (i2 (lenV x y how) (lenE x y how)) := by
  refine ⟨64, 8, fun α k => (flen_text 64 0 α x y how k).trans ?_⟩
  rw [by4_eq]
  unfold lenV lenE lenB
  cases hx : okB x
  · rfl
  · cases hy : okB y
    · rfl
    · cases hw : wayB how
      · rfl
      · have s := sq2_in' hx hy
        rw [rtBr_eq how (by omega) (by omega)]
        rfl
noncomputable def flenS : Fsp := fun _ args k => match args with
  | [.agg [.int .i64 x, .int .i64 y], .int .i64 how] => k (i2 (lenV x y how) (lenE x y how))
  | _ => none
theorem flenS_ok : FspOk Tryz.prog 16 flenS := tower_S fsL2_ok spL_ok ⟨Tryz.func16, fun _ _ => by kernel_rfl⟩ (by intro α args k; unfold flenS; split <;> rfl) fun args out hSm hEq => by
  unfold flenS at hEq
  split at hEq
  · rename_i x y how
    obtain ⟨N, n, e⟩ := flen_fin x y how hSm
    exact ⟨N, n, (e AOut some).trans hEq⟩
  · cases hEq
def z0 (P : Int) : Bool := hiW P == 0 && (loW P == 0 && true)
end Go.Proofs.YtfbiblmlcepdlaaGreat

namespace Go.Proofs.YtfbiblmlcepdlaaGreat
open Go.RowKit
section
variable {X α σ : Type}
theorem any_rangeX (xs : List X) (d : X) (q : X → Bool) : ((List.range xs.length).any fun i => q (xs.getD i d)) = xs.any q := by
  rw [Bool.eq_iff_iff, List.any_eq_true, List.any_eq_true]
  constructor
  · rintro ⟨i, hi, hq⟩
    have hlt := List.mem_range.1 hi
    rw [List.getD_eq_getElem?_getD, List.getElem?_eq_getElem hlt] at hq
    exact ⟨_, List.getElem_mem hlt, hq⟩
  · rintro ⟨x, hx, hq⟩
    obtain ⟨i, hlt, rfl⟩ := List.mem_iff_getElem.1 hx
    refine ⟨i, List.mem_range.2 hlt, ?_⟩
    rw [List.getD_eq_getElem?_getD, List.getElem?_eq_getElem hlt]
    exact hq
theorem count_loop {f : σ → Option (LRes σ α)} {K : Nat → σ → Option α} (st : Nat → σ) (n : Nat) {b : Nat} {y : σ} (h : ∀ i, i < n → f (st i) = some (.cont (st (i + 1)))) (hend : f (st n) = some (.brk b y)) {N : Nat} (hN : n < N) : afterL (iterL N f (st 0)) K = K b y := by
  rw [iterL_count st (brk_not b y) n h hend 0 (Nat.zero_le _) N (by omega)]
  rfl
theorem any_loop {f : σ → Option (LRes σ α)} {K : Nat → σ → Option α} (st : Nat → σ) (n : Nat) (p : Nat → Bool) {b : Nat} {y : σ} (R : Option α) (h : ∀ i, i < n → f (st i) = bif p i then finL R else some (.cont (st (i + 1)))) (hend : f (st n) = some (.brk b y)) : afterL (iterL (n + 1) f (st 0)) K = bif (List.range n).any p then R else K b y := by
  rw [iterL_any st p (fin_not R) (brk_not b y) n h hend]
  cases (List.range n).any p
  · rfl
  · cases R <;> rfl
end
theorem lt_len {i n : Nat} (h : i < n) : decide ((i : Int) < (n : Int)) = true := decide_eq_true (by omega)
theorem not_lt_len {n : Nat} : decide ((n : Int) < (n : Int)) = false := decide_eq_false (by omega)
theorem in_len {i n : Nat} (h : i < n) : 0 ≤ (i : Int) ∧ (i : Int) < (n : Int) := ⟨by omega, by omega⟩
theorem wrap_next {i n : Nat} (h : i < n) (hn : n ≤ maxLen) : IntKind.i64.wrap ((i : Int) + 1) = ((i + 1 : Nat) : Int) := wrap_small (n := i + 1) (by omega)
end Go.Proofs.YtfbiblmlcepdlaaGreat

namespace Go.Proofs.YtfbiblmlcepdlaaGreat
open Go.RowKit
/-! First places, for the functions that are asked. -/
/-! Cells, brakes and bends. -/
end Go.Proofs.YtfbiblmlcepdlaaGreat

namespace Go.Proofs.YtfbiblmlcepdlaaGreat
open Go.RowKit
end Go.Proofs.YtfbiblmlcepdlaaGreat

namespace Go.Proofs.YtfbiblmlcepdlaaGreat
open Go.RowKit
noncomputable def fnR0 : FuncId → Option Fsp := fun g =>
  fnL g
theorem fnR0_ok : FsOk fnR0 :=
  fnL_ok
noncomputable def fnR1 : FuncId → Option Fsp := fun g =>
  fnR0 g
theorem fnR1_ok : FsOk fnR1 :=
  fnR0_ok
end Go.Proofs.YtfbiblmlcepdlaaGreat

namespace Go.Proofs.YtfbiblmlcepdlaaGreat
open Go.RowKit
/-! The corners of a cell, by the program's own wraps. -/
/-! What it comes to. -/
def mx (a b : Int) : Int := if a < b then b else a
end Go.Proofs.YtfbiblmlcepdlaaGreat

namespace Go.Proofs.YtfbiblmlcepdlaaGreat
open Go.RowKit
/-! The cells that a way touches, in their order. -/
section
variable {τ α : Type}
end
end Go.Proofs.YtfbiblmlcepdlaaGreat

namespace Go.Proofs.YtfbiblmlcepdlaaGreat
open Go.RowKit
end Go.Proofs.YtfbiblmlcepdlaaGreat

namespace Go.Proofs.YtfbiblmlcepdlaaGreat
open Go.RowKit
/-! What is done with each cell. -/
end Go.Proofs.YtfbiblmlcepdlaaGreat

namespace Go.Proofs.YtfbiblmlcepdlaaGreat
open Go.RowKit
/-! Lists, some of whose numbers something is done with. -/
/-! Boxes. -/
section
variable {σ α : Type}
end
end Go.Proofs.YtfbiblmlcepdlaaGreat

namespace Go.Proofs.YtfbiblmlcepdlaaGreat
open Go.RowKit
def i3 (a b e : Int) : AOut := .ret (.tup [.int .i64 a, .int .i64 b, .int .i64 e])
end Go.Proofs.YtfbiblmlcepdlaaGreat

namespace Go.Proofs.YtfbiblmlcepdlaaGreat
open Go.RowKit
section
variable {σ τ α β : Type}
def LRes.map (e : σ → τ) (g : α → β) : LRes σ α → LRes τ β
  | .cont x => .cont (e x)
  | .brk id x => .brk id (e x)
  | .fin a => .fin (g a)
end
end Go.Proofs.YtfbiblmlcepdlaaGreat

namespace Go.Proofs.YtfbiblmlcepdlaaGreat
open Go.RowKit
section
variable {σ α : Type}
end
end Go.Proofs.YtfbiblmlcepdlaaGreat

namespace Go.Proofs.YtfbiblmlcepdlaaGreat
open Go.RowKit
def SimV (u v : AVal) : Prop := ∀ (h : List ABlk) (g : Gh) (w : World) (x : Value), Rep h g w u x → Rep h g w v x
theorem SimV.refl (u : AVal) : SimV u u := fun _ _ _ _ r => r
end Go.Proofs.YtfbiblmlcepdlaaGreat

namespace Go.Proofs.YtfbiblmlcepdlaaGreat
open Go.RowKit
end Go.Proofs.YtfbiblmlcepdlaaGreat

namespace Go.Proofs.YtfbiblmlcepdlaaGreat
open Go.RowKit
section
variable {α : Type}
end
end Go.Proofs.YtfbiblmlcepdlaaGreat

namespace Go.Proofs.YtfbiblmlcepdlaaGreat
open Go.RowKit
/-! Lists of numbers for which something holds. -/
end Go.Proofs.YtfbiblmlcepdlaaGreat

namespace Go.Proofs.YtfbiblmlcepdlaaGreat
open Go.RowKit
section
variable {α : Type}
end
end Go.Proofs.YtfbiblmlcepdlaaGreat

namespace Go.Proofs.YtfbiblmlcepdlaaGreat
open Go.RowKit
def rrB (a : List Int) : Bool := isD a && decide (vl a < 332306998946228968225951765070086144)
def rqBody {α : Type} (a : List Int) (n b m : Int) : Option (LRes (Int × Int × Unit) α) :=
  bif decide (b > 0) then
    bif decide (0 ≤ m) && decide (m ≤ 9223372036854775807) then
      bif isD (dg m) && isD (dg m) then
        bif isD (dg (vl (dg m) * vl (dg m))) && isD a then
          bif decide (cmp3 (vl (dg (vl (dg m) * vl (dg m)))) (vl a) ≤ 0) then some (LRes.cont (m, IntKind.i64.wrap (b.tdiv 2), ()))
          else some (LRes.cont (n, IntKind.i64.wrap (b.tdiv 2), ()))
        else none
      else none
    else none
  else some (LRes.brk 0 (n, b, ()))
def rqE (L : Nat) : Int := if IntKind.i64.wrap (IntKind.i64.wrap ((IntKind.i64.wrap (15 * (L : Int))).tdiv 2) + 1) < 58 then IntKind.i64.wrap (IntKind.i64.wrap ((IntKind.i64.wrap (15 * (L : Int))).tdiv 2) + 1) else 58
abbrev nbO (n : Int) (b : Bool) : AOut := .ret (.tup [.int .i64 n, .bool b])
def rqEnd {α : Type} (a : List Int) (y : Int) (k : AOut → Option α) : Option α :=
  bif decide (0 ≤ y) && decide (y ≤ 9223372036854775807) then
    bif isD (dg y) && isD (dg y) then
      bif isD (dg (vl (dg y) * vl (dg y))) && isD a then k (nbO y (cmp3 (vl (dg (vl (dg y) * vl (dg y)))) (vl a) == 0))
      else none
    else none
  else none
set_option maxRecDepth 100000 in
theorem rroot_text (N n0 : Nat) (α : Type) (a : List Int) (k : AOut → Option α) : evFn real tab ((twY fnR1 spL).env real tab N (n0 + 8)) N Tryz.f68 α [.ro (.int .i64) a] k =
 if rqE a.length < 0 then none else afterL (iterL N (fun x : Int × Int × Unit => rqBody a x.1 x.2.1 (IntKind.i64.wrap (x.1 + x.2.1))) (0, IntKind.i64.wrap (1 * 2 ^ min (rqE
 a.length).toNat 64), ())) fun id y => if id = 0 then rqEnd a y.1 k else none := by kernel_rfl
def rqN (L : Nat) : Nat := min 58 (15 * L / 2 + 1)
theorem rq_is : ∀ L, L < 13 → (¬ rqE L < 0) ∧ IntKind.i64.wrap (1 * 2 ^ min (rqE L).toNat 64) = ((2 ^ (rqN L + 1) / 2 : Nat) : Int) ∧ (rqN L = 58 ∨ 32768 ^ L ≤ 2 ^ (rqN L + 1) * 2 ^ (rqN L + 1)) ∧ rqN L ≤ 58 := by decide +kernel
theorem rr_bs {a : List Int} (h : rrB a = true) : rtP (vl a) (2 ^ (rqN a.length + 1)) = false ∧ ((bs (rtP (vl a)) (rqN a.length + 1) 0 : Nat) : Int) = rt (vl a) ∧ bs (rtP (vl a)) (rqN a.length + 1) 0 < 2 ^ 59 := by
  simp only [rrB, Bool.and_eq_true, decide_eq_true_eq] at h
  obtain ⟨hD, hv⟩ := h
  have h0 := (isD_iff.1 hD).2.1
  obtain ⟨_, _, c, d⟩ := rq_is a.length (by have := isD_len hD; omega)
  have lt := vl_lt (isD_low hD)
  have np : rtP (vl a) (2 ^ (rqN a.length + 1)) = false := by
    simp only [rtP, decide_eq_false_iff_not]
    rw [← Int.natCast_mul]
    rcases c with c | c
    · rw [c]
      have : ((2 ^ (58 + 1) * 2 ^ (58 + 1) : Nat) : Int) = 332306998946228968225951765070086144 := rfl
      rw [this]; omega
    · have : ((32768 ^ a.length : Nat) : Int) = (32768 : Int) ^ a.length := by simp
      omega
  have p0 : rtP (vl a) 0 = true := by simp only [rtP, decide_eq_true_eq]; omega
  have np' : rtP (vl a) (0 + 2 ^ (rqN a.length + 1)) = false := by rw [Nat.zero_add]; exact np
  have np63 : rtP (vl a) (0 + 2 ^ 63) = false := by
    simp only [rtP, decide_eq_false_iff_not]
    have : ((0 + 2 ^ 63 : Nat) : Int) * ((0 + 2 ^ 63 : Nat) : Int) = 85070591730234615865843651857942052864 := rfl
    rw [this]; omega
  obtain ⟨e1, e2, e3, e4⟩ := bs_spec (rtP (vl a)) (fun m n => rtP_anti m n) _ 0 p0 np'
  refine ⟨np, ?_, ?_⟩
  · rw [rt_bs, bs_eq (rtP (vl a)) (fun m n => rtP_anti m n) p0 np63 e1 e2]
  · have : 2 ^ (rqN a.length + 1) ≤ 2 ^ 59 := Nat.pow_le_pow_right (by omega) (by omega)
    omega
theorem rq_loop {α : Type} {a : List Int} (h : rrB a = true) (K : Nat → Int × Int × Unit → Option α) {N : Nat} (hN : 60 < N) :
    afterL (iterL N (fun x : Int × Int × Unit => rqBody a x.1 x.2.1 (IntKind.i64.wrap (x.1 + x.2.1))) (0, ((2 ^ (rqN a.length + 1) / 2 : Nat) : Int), ())) K = K 0 (rt (vl a), 0, ()) := by
  obtain ⟨np, eb, _⟩ := rr_bs h
  have h' := h
  simp only [rrB, Bool.and_eq_true, decide_eq_true_eq] at h'
  obtain ⟨hD, hv⟩ := h'
  have h0 := (isD_iff.1 hD).2.1
  obtain ⟨_, _, _, d⟩ := rq_is a.length (by have := isD_len hD; omega)
  have hle : 2 ^ (rqN a.length + 1) ≤ 2 ^ 59 := Nat.pow_le_pow_right (by omega) (by omega)
  have e := bit_searchK (f := fun x : Int × Int × Unit => rqBody (α := α) a x.1 x.2.1 (IntKind.i64.wrap (x.1 + x.2.1))) 0 (rtP (vl a)) (rqN a.length + 1) (fun n k a1 a2 a3 => ?_) (fun n => rfl) (rqN a.length + 1) 0 (Nat.zero_mod _) (by omega) (by simp only [rtP, decide_eq_true_eq]; omega) N (by omega)
  · have e' : iterL N (fun x : Int × Int × Unit => rqBody (α := α) a x.1 x.2.1 (IntKind.i64.wrap (x.1 + x.2.1))) (0, ((2 ^ (rqN a.length + 1) / 2 : Nat) : Int), ()) = some (.brk 0 (((bs (rtP (vl a)) (rqN a.length + 1) 0 : Nat) : Int), 0, ())) := e
    rw [e', eb]
    rfl
  · have p59 : (2 : Nat) ^ 59 = 576460752303423488 := rfl
    have hk : 2 ^ (k + 1) = 2 ^ k + 2 ^ k := by rw [Nat.pow_succ]; omega
    have hpos : 0 < 2 ^ k := Nat.two_pow_pos k
    have hw : IntKind.i64.wrap ((n : Int) + ((2 ^ k : Nat) : Int)) = ((n + 2 ^ k : Nat) : Int) := by rw [i64_in _ (by omega)]; omega
    have hsh : IntKind.i64.wrap ((((2 ^ k : Nat) : Int)).tdiv 2) = ((2 ^ k / 2 : Nat) : Int) := by
      rw [Int.tdiv_eq_ediv_of_nonneg (by omega), i64_in _ (by omega)]; omega
    have hm : (0 : Int) ≤ ((n + 2 ^ k : Nat) : Int) ∧ ((n + 2 ^ k : Nat) : Int) ≤ 576460752303423488 := by omega
    have hp : rtP (vl a) (n + 2 ^ k) = decide (((n + 2 ^ k : Nat) : Int) * ((n + 2 ^ k : Nat) : Int) ≤ vl a) := rfl
    have m2 := i7_D.sq_in' hm.1 hm.2
    have hpos2 : ((2 ^ k : Nat) : Int) > 0 := by omega
    show rqBody a (n : Int) ((2 ^ k : Nat) : Int) (IntKind.i64.wrap ((n : Int) + ((2 ^ k : Nat) : Int))) = _
    unfold rqBody
    rw [decide_eq_true hpos2, hw, hsh, hp]
    generalize hme : ((n + 2 ^ k : Nat) : Int) = m at *
    rw [decide_eq_true hm.1, decide_eq_true (show m ≤ 9223372036854775807 by omega), isD_dg (n := m) ⟨hm.1, by omega⟩, vl_dg _ hm.1, isD_dg (n := m * m) ⟨m2.1, by omega⟩, vl_dg _ m2.1, hD]
    simp only [Bool.and_self, cond_true]
    by_cases hq : m * m ≤ vl a
    · rw [decide_eq_true (cmp3_le0.2 hq), decide_eq_true hq]
      simp only [cond_true]
      rw [← hme]
    · rw [decide_eq_false (fun c => hq (cmp3_le0.1 c)), decide_eq_false hq]
      rfl
theorem rt_in {a : List Int} (h : rrB a = true) : 0 ≤ rt (vl a) ∧ rt (vl a) < 576460752303423488 := by
  obtain ⟨_, eb, lt⟩ := rr_bs h
  have p59 : (2 : Nat) ^ 59 = 576460752303423488 := rfl
  omega
theorem cmp3_eq0 (a b : Int) : (cmp3 a b == 0) = (a == b) := by
  unfold cmp3
  rw [Bool.eq_iff_iff]
  simp only [beq_iff_eq]
  split <;> (try split) <;> omega
theorem rroot_fin (a : List Int) (hs : ∀ qSm ∈ ([.ro (.int .i64) a] : List AVal), Sm qSm) (hCo : (rrB a) = true) : ∃ N n, ∀ α (k : AOut → Option α), evFn real tab ((twY fnR1 spL).env real tab N n) N Tryz.f68 α [.ro (.int .i64) a] k = k (nbO (rt (vl a)) (rt (vl a) * rt (vl a) == vl a)) := by
  refine ⟨61, 8, fun α k => (rroot_text 61 0 α a k).trans ?_⟩
  have hCo' := hCo
  simp only [rrB, Bool.and_eq_true, decide_eq_true_eq] at hCo'
  obtain ⟨hD, hv⟩ := hCo'
  obtain ⟨c1, c2, _⟩ := rq_is a.length (by have := isD_len hD; omega)
  obtain ⟨r0, r1⟩ := rt_in hCo
  have m2 := i7_D.sq_in' r0 (show rt (vl a) ≤ 576460752303423488 by omega)
  rw [if_neg c1, c2, rq_loop hCo _ (by omega), if_pos rfl]
  unfold rqEnd
  rw [decide_eq_true r0, decide_eq_true (show rt (vl a) ≤ 9223372036854775807 by omega), isD_dg (n := rt (vl a)) ⟨r0, by omega⟩, vl_dg _ r0, isD_dg (n := rt (vl a) * rt (vl a)) ⟨m2.1, by omega⟩, vl_dg _ m2.1, hD, cmp3_eq0]
  rfl
noncomputable def rrootS : Fsp := fun _ args k => match args with
  | [.ro (.int .i64) a] => bif rrB a then (k (nbO (rt (vl a)) (rt (vl a) * rt (vl a) == vl a))) else none
  | _ => none
theorem rrootS_ok : FspOk Tryz.prog 68 rrootS := tower_Y fnR1_ok spL_ok ⟨Tryz.func68, fun _ _ => by kernel_rfl⟩ (by intro α args k; unfold rrootS; split <;> simp only [cond_bind, Option.bind_some, Option.bind_none]) fun args out hSm hEq => by
  unfold rrootS at hEq
  split at hEq
  · rename_i a
    cases hc : rrB a
    · rw [hc] at hEq; cases hEq
    · rw [hc] at hEq
      obtain ⟨N, n, e⟩ := rroot_fin a hSm hc
      exact ⟨N, n, (e AOut some).trans hEq⟩
  · cases hEq
noncomputable def fnR2 : FuncId → Option Fsp := fun g =>
  if g = 68 then some rrootS else
  fnR1 g
theorem fnR2_ok : FsOk fnR2 :=
  fs_cons rrootS_ok <|
  fnR1_ok
def roT {α : Type} (a : List Int) (n v : Int) (k : AOut → Option α) : Option α :=
  bif decide (0 ≤ IntKind.i64.wrap (IntKind.i64.wrap (2 * n) + 1)) && decide (IntKind.i64.wrap (IntKind.i64.wrap (2 * n) + 1) ≤ 9223372036854775807) then
    bif isD a && isD (dg (IntKind.i64.wrap (1 * 2 ^ min (Int.toNat 2) 64))) then
      bif isD (dg (IntKind.i64.wrap (IntKind.i64.wrap (2 * n) + 1))) && isD (dg (IntKind.i64.wrap (IntKind.i64.wrap (2 * n) + 1))) then
        bif isD (dg (v * vl (dg (IntKind.i64.wrap (1 * 2 ^ min (Int.toNat 2) 64))))) && isD (dg (vl (dg (IntKind.i64.wrap (IntKind.i64.wrap (2 * n) + 1))) * vl (dg (IntKind.i64.wrap (IntKind.i64.wrap (2 * n) + 1))))) then
          bif decide (cmp3 (vl (dg (v * vl (dg (IntKind.i64.wrap (1 * 2 ^ min (Int.toNat 2) 64)))))) (vl (dg (vl (dg (IntKind.i64.wrap (IntKind.i64.wrap (2 * n) + 1))) * vl (dg (IntKind.i64.wrap (IntKind.i64.wrap (2 * n) + 1)))))) ≥ 0) then k (nbO (IntKind.i64.wrap (n + 1)) true)
          else k (nbO n true)
        else none
      else none
    else none
  else none
set_option maxRecDepth 100000 in
theorem rrooted_text (N n0 : Nat) (α : Type) (a : List Int) (how : Int) (k : AOut → Option α) : evFn real tab ((twY fnR2 spL).env real tab N (n0 + 8)) N Tryz.f36 α [.ro (.int .i64) a, .int .i64 how] k =
 bif rrB a then bif how == 2 then bif how == 3 then roT a (rt (vl a)) (vl a) k else bif !(rt (vl a) * rt (vl a) == vl a) then k (nbO (IntKind.i64.wrap (rt (vl a) + 1)) true) else k
 (nbO (rt (vl a)) true) else bif how == 3 then roT a (rt (vl a)) (vl a) k else k (nbO (rt (vl a)) true) else none := by kernel_rfl
theorem roT_fin {α : Type} {a : List Int} {n v : Int} (ha : isD a = true) (hn : 0 ≤ n ∧ n < 576460752303423488) (hv : 0 ≤ v ∧ v < 332306998946228968225951765070086144) (k : AOut → Option α) : roT a n v k = k (nbO (n + (bif decide ((2 * n + 1) * (2 * n + 1) ≤ 4 * v) then 1 else 0)) true) := by
  have two : IntKind.i64.wrap (1 * 2 ^ min (Int.toNat 2) 64) = 4 := by decide
  have m2 := i7_D.sq_in' (x := 2 * n + 1) (B := 1152921504606846976) (by omega) (by omega)
  unfold roT
  rw [i64_in (2 * n) (by omega), i64_in (2 * n + 1) (by omega), i64_in (n + 1) (by omega), two, decide_eq_true (show 0 ≤ 2 * n + 1 by omega), decide_eq_true (show 2 * n + 1 ≤ 9223372036854775807 by omega), ha, isD_dg (n := 4) ⟨by omega, by omega⟩, isD_dg (n := 2 * n + 1) ⟨by omega, by omega⟩, vl_dg 4 (by omega), vl_dg (2 * n + 1) (by omega), isD_dg (n := v * 4) ⟨by omega, by omega⟩, isD_dg (n := (2 * n + 1) * (2 * n + 1)) ⟨m2.1, by omega⟩, vl_dg (v * 4) (by omega), vl_dg _ m2.1]
  simp only [Bool.and_self, cond_true]
  by_cases h : (2 * n + 1) * (2 * n + 1) ≤ 4 * v
  · rw [decide_eq_true h, decide_eq_true (cmp3_ge.2 (show (2 * n + 1) * (2 * n + 1) ≤ v * 4 by omega))]
    rfl
  · rw [decide_eq_false h, decide_eq_false (fun c => h (by have := cmp3_ge.1 c; omega)), cond_false, cond_false, Int.add_zero]
theorem rrooted_fin (a : List Int) (how : Int) (hs : ∀ qSm ∈ ([.ro (.int .i64) a, .int .i64 how] : List AVal), Sm qSm) (hCo : (rrB a) = true) : ∃ N n, ∀ α (k : AOut → Option α), evFn real tab ((twY fnR2 spL).env real tab N n) N Tryz.f36 α [.ro (.int .i64) a, .int .i64 how] k = k (nbO (rtN (vl a) how) true) := by
  refine ⟨8, 8, fun α k => (rrooted_text 8 0 α a how k).trans ?_⟩
  obtain ⟨r0, r1⟩ := rt_in hCo
  have hCo' := hCo
  simp only [rrB, Bool.and_eq_true, decide_eq_true_eq] at hCo'
  have h0 := (isD_iff.1 hCo'.1).2.1
  rw [hCo, cond_true, roT_fin hCo'.1 ⟨r0, r1⟩ ⟨h0, hCo'.2⟩ k, i64_in (rt (vl a) + 1) (by omega)]
  unfold rtN rtUp
  by_cases h2 : how = 2
  · subst h2
    cases rt (vl a) * rt (vl a) == vl a
    · rfl
    · show k _ = k _
      simp
  · rw [beq_eq_false_iff_ne.2 h2, if_neg h2, cond_false]
    by_cases h3 : how = 3
    · subst h3
      rfl
    · rw [beq_eq_false_iff_ne.2 h3, if_neg h3, cond_false, cond_false, Int.add_zero]
noncomputable def rrootedS : Fsp := fun _ args k => match args with
  | [.ro (.int .i64) a, .int .i64 how] => bif rrB a then (k (nbO (rtN (vl a) how) true)) else none
  | _ => none
theorem rrootedS_ok : FspOk Tryz.prog 36 rrootedS := tower_Y fnR2_ok spL_ok ⟨Tryz.func36, fun _ _ => by kernel_rfl⟩ (by intro α args k; unfold rrootedS; split <;> simp only [cond_bind, Option.bind_some, Option.bind_none]) fun args out hSm hEq => by
  unfold rrootedS at hEq
  split at hEq
  · rename_i a how
    cases hc : rrB a
    · rw [hc] at hEq; cases hEq
    · rw [hc] at hEq
      obtain ⟨N, n, e⟩ := rrooted_fin a how hSm hc
      exact ⟨N, n, (e AOut some).trans hEq⟩
  · cases hEq
noncomputable def fnR3 : FuncId → Option Fsp := fun g =>
  if g = 36 then some rrootedS else
  fnR2 g
theorem fnR3_ok : FsOk fnR3 :=
  fs_cons rrootedS_ok <|
  fnR2_ok
theorem ft_fx {n : Int} (h : 0 ≤ n) : ftV n true = fxV false n ∧ ftE n true = fxE n := by
  have : okB n = fxB n := by
    rw [Bool.eq_iff_iff, ok_iff]; simp only [fxB, decide_eq_true_eq]; omega
  unfold ftV ftE fxV fxE
  rw [this]
  exact ⟨rfl, rfl⟩
theorem rt_nn (s : Int) : 0 ≤ rt s := by rw [rt_C]; exact Int.natCast_nonneg _
theorem rtN_nn (s how : Int) : 0 ≤ rtN s how := by
  have := rt_nn s
  unfold rtN
  cases rtUp s how <;> simp only [cond_true, cond_false] <;> omega
end Go.Proofs.YtfbiblmlcepdlaaGreat

namespace Go.Proofs.YtfbiblmlcepdlaaGreat
open Go.RowKit
set_option maxRecDepth 100000 in
theorem rlen_text (N n0 : Nat) (α : Type) (x y how : Int) (k : AOut → Option α) : evFn real tab ((twY fnR3 spL).env real tab N (n0 + 8)) N Tryz.f18 α [.agg [.int .i64 x, .int .i64 y], .int .i64 how] k =
 bif okB x then bif !okB y then k (AOut.ret (AVal.tup [AVal.int IntKind.i64 0, AVal.int IntKind.i64 2])) else bif !wayB how then k (AOut.ret (AVal.tup [AVal.int IntKind.i64 0,
 AVal.int IntKind.i64 2])) else bif i7 x && i7 y then bif rrB (dg (sq2 x y)) then k (AOut.ret (AVal.tup [AVal.int IntKind.i64 (ftV (rtN (vl (dg (sq2 x y))) how) true), AVal.int
 IntKind.i64 (ftE (rtN (vl (dg (sq2 x y))) how) true)])) else none else none else k (AOut.ret (AVal.tup [AVal.int IntKind.i64 0, AVal.int IntKind.i64 2])) := by kernel_rfl
theorem rlen_fin (x y how : Int) (hs : ∀ qSm ∈ ([.agg [.int .i64 x, .int .i64 y], .int .i64 how] : List AVal), Sm qSm) : ∃ N n, ∀ α (k : AOut → Option α), evFn real tab ((twY fnR3 spL).env real tab N n) N Tryz.f18 α [.agg [.int .i64 x, .int .i64 y], .int .i64 how] k = k (i2 (lenV x y how) (lenE x y how)) := by
  refine ⟨8, 8, fun α k => (rlen_text 8 0 α x y how k).trans ?_⟩
  unfold lenV lenE lenB
  cases hx : okB x
  · cases okB y <;> cases wayB how <;> rfl
  cases hy : okB y
  · cases wayB how <;> rfl
  cases hw : wayB how
  · rfl
  have x7 := i7_ok hx; have y7 := i7_ok hy
  rw [ok_iff] at hx hy
  have ax : 0 ≤ ab x ∧ ab x ≤ 70368744177664 := by unfold ab; split <;> omega
  have ay : 0 ≤ ab y ∧ ab y ≤ 70368744177664 := by unfold ab; split <;> omega
  have m1 := mul_in ax ax
  have m2 := mul_in ay ay
  have hs : 0 ≤ sq2 x y ∧ sq2 x y < 332306998946228968225951765070086144 := by unfold sq2; omega
  have d : isD (dg (sq2 x y)) = true := isD_dg ⟨hs.1, by omega⟩
  have b : rrB (dg (sq2 x y)) = true := by
    unfold rrB
    rw [d, vl_dg _ hs.1, decide_eq_true hs.2]; rfl
  obtain ⟨f1, f2⟩ := ft_fx (rtN_nn (sq2 x y) how)
  rw [x7, y7, b, vl_dg _ hs.1, f1, f2]
  rfl
noncomputable def rlenS : Fsp := fun _ args k => match args with
  | [.agg [.int .i64 x, .int .i64 y], .int .i64 how] => k (i2 (lenV x y how) (lenE x y how))
  | _ => none
theorem rlenS_ok : FspOk Tryz.prog 18 rlenS := tower_Y fnR3_ok spL_ok ⟨Tryz.func18, fun _ _ => by kernel_rfl⟩ (by intro α args k; unfold rlenS; split <;> rfl) fun args out hSm hEq => by
  unfold rlenS at hEq
  split at hEq
  · rename_i x y how
    obtain ⟨N, n, e⟩ := rlen_fin x y how hSm
    exact ⟨N, n, (e AOut some).trans hEq⟩
  · cases hEq
end Go.Proofs.YtfbiblmlcepdlaaGreat

namespace Go.Proofs.YtfbiblmlcepdlaaGreat
section
variable {α : Type}
theorem any_from {σ : Type} {f : σ → Option (LRes σ α)} (st : Nat → σ) (p : Nat → Bool) {R E : Option (LRes σ α)} (hR : ∀ y, R ≠ some (.cont y)) (hE : ∀ y, E ≠ some (.cont y)) (n : Nat) (h : ∀ i, i < n → f (st i) = bif p i then R else some (.cont (st (i + 1)))) (hend : f (st n) = E) :
    ∀ k m, m + k = n → ∀ N, k < N → iterL N f (st m) = bif (List.range' m k).any p then R else E
  | 0, m, hm, N, hN => by
    cases N with
    | zero => omega
    | succ N =>
      have : m = n := by omega
      subst this
      simp only [iterL, hend]
      simp only [List.range'_zero, List.any_nil, cond_false]
  | k + 1, m, hm, N, hN => by
    cases N with
    | zero => omega
    | succ N =>
      have hf := h m (by omega)
      have ih := any_from st p hR hE n h hend k (m + 1) (by omega) N (by omega)
      rw [List.range'_succ, List.any_cons]
      cases hp : p m
      · rw [hp] at hf
        rw [Bool.false_or, ← ih]
        conv => lhs; unfold iterL
        rw [hf]
        rfl
      · rw [hp] at hf
        simp only [iterL, hf, cond_true, Bool.true_or]
theorem any_loop' {σ : Type} {f : σ → Option (LRes σ α)} {K : Nat → σ → Option α} (st : Nat → σ) (n : Nat) (p : Nat → Bool) {b : Nat} {y : σ} (R : Option α) (h : ∀ i, i < n → f (st i) = bif p i then finL R else some (.cont (st (i + 1)))) (hend : f (st n) = some (.brk b y)) {N : Nat} (hN : n < N) : afterL (iterL N f (st 0)) K = bif (List.range n).any p then R else K b y := by
  rw [any_from st p (fin_not R) (brk_not b y) n h hend n 0 (by omega) N hN, ← List.range_eq_range']
  cases (List.range n).any p
  · rfl
  · cases R <;> rfl
end
end Go.Proofs.YtfbiblmlcepdlaaGreat

namespace Go.Proofs.YtfbiblmlcepdlaaGreat
open Go.RowKit
def sameX {X : Type} (eq : X → X → Bool) (d : X) (l l' : List X) : Bool := bif (l.length : Int) != (l'.length : Int) then false else !((List.range l.length).any fun i => !(eq (l.getD i d) (l'.getD i d)))
theorem sameX_refl {X : Type} {eq : X → X → Bool} {d : X} (h : ∀ x, eq x x = true) (l : List X) : sameX eq d l l = true := by
  unfold sameX
  have h1 : ((l.length : Int) != (l.length : Int)) = false := by simp
  rw [h1, cond_false, Bool.not_eq_true', List.any_eq_false]
  intro i _
  simp [h]
def saF {α X : Type} (eq : X → X → Bool) (d : X) (l l' : List X) (R : Option α) (x : Int × Unit) : Option (LRes (Int × Unit) α) :=
  bif decide (x.1 < (l.length : Int)) then
    if 0 ≤ x.1 ∧ x.1 < (l.length : Int) then
      if 0 ≤ x.1 ∧ x.1 < (l'.length : Int) then
        bif !(eq (l.getD x.1.toNat d) (l'.getD x.1.toNat d)) then finL R else some (.cont (IntKind.i64.wrap (x.1 + 1), ()))
      else none
    else none
  else some (.brk 0 (x.1, ()))
theorem sa_loop {α X : Type} (eq : X → X → Bool) (d : X) (l l' : List X) (hl : l.length ≤ maxLen) (R : Bool → Option α) :
    (bif (l.length : Int) != (l'.length : Int) then R false else afterL (iterL (l.length + 1) (saF eq d l l' (R false)) (0, ())) fun id _ => if id = 0 then R true else none) = R (sameX eq d l l') := by
  unfold sameX
  cases h1 : ((l.length : Int) != (l'.length : Int))
  · have hl' : l.length = l'.length := by have := bne_eq_false_iff_eq.1 h1; omega
    simp only [cond_false]
    refine (any_loop (f := saF eq d l l' (R false)) (fun i : Nat => ((i : Int), ())) l.length (fun i => !(eq (l.getD i d) (l'.getD i d))) (R false) (fun i hi => ?_) (y := ((l.length : Int), ())) (b := 0) ?_).trans ?_
    · unfold saF
      simp only [lt_len hi, cond_true, in_len hi, in_len (show i < l'.length by omega), if_pos, and_self, decide_true, Int.toNat_natCast, wrap_next hi hl]
    · unfold saF
      simp only [not_lt_len, cond_false]
    · cases (List.range l.length).any fun i => !(eq (l.getD i d) (l'.getD i d)) <;> rfl
  · rfl
end Go.Proofs.YtfbiblmlcepdlaaGreat
