/- Parts of the proof, in build order. -/
import Derived.Test.YtgpljldfbhkdlaaGreatM6
import Derived.Test.YtgpljldfbhkdlaaGreatProg
import Derived.WalkKit
import Derived.WalkSpells
import Derived.WalkLawsBesides
import Derived.Defers
import Derived.Recover
import Derived.Below
import Derived.Lib.Mul64
import Derived.Lib.BitFns
import Derived.Lib.Strings
import Derived.Lib.Slices
import Derived.Lib.Small
import Derived.Lib.Walk
import Derived.Laws.Bits64b
import Derived.Laws.Externs
import Derived.Deep.QuietTactic
import Derived.BigQuiet
import Derived.Outline
import Derived.LoopTactic
import Derived.Laws.BitsAllLaws
import Derived.Deep.DeepCutAuto
import Derived.Deep.CutBlock
import Derived.Deep.CutRange
import Derived.Deep.LoopGhost
import Derived.Deep.RegionHeld3
import Derived.StillTailTactics
import Derived.Shelf.Spec.BitsCarry
namespace Go.Proofs.YtgpljldfbhkdlaaGreat
open Go.RowKit
def fnB : FuncId → Option Fsp := fun g =>
  if g = 199 then some minusDS else
  if g = 138 then some timesDS else
  fnA g
theorem fnB_ok : FsOk fnB :=
  fs_cons minusDS_ok <|
  fs_cons timesDS_ok <|
  fnA_ok
noncomputable def twZ (fs : FuncId → Option Fsp) (sp : FuncId → Option (Cv → Cv)) : Tower := ⟨fs, fun f => f != 999979, sp, lookF fnsT⟩
theorem tower_Z {fs : FuncId → Option Fsp} {sp : FuncId → Option (Cv → Cv)} (h : FsOk fs) (hs : SpOk sp) {f : FuncId} {fn : Func} (hf : FnOk Tryz.prog f fn) {S : Fsp}
    (hn : ∀ (α : Type) args (k : AOut → Option α), S α args k = (S AOut args some).bind k)
    (hS : ∀ args out, (∀ c ∈ args, Sm c) → S AOut args some = some out → ∃ N n, evFn real tab ((twZ fs sp).env real tab N n) N fn AOut args some = some out) : FspOk Tryz.prog f S where
  enter := hf.enter
  nat := hn
  calls := fun args out hout M w cargs hM hl hr => by
    have hsm : ∀ c ∈ args, Sm c := fun c hc => by
      obtain ⟨j, hj, rfl⟩ := List.mem_iff_getElem.1 hc
      exact (hr j _ _ (List.getElem?_eq_getElem hj) (Array.getElem?_eq_getElem (by omega))).sm
    obtain ⟨N, n, hN⟩ := hS args out hsm hout
    exact (fn_ok mixedT tabOk (tower_ok mixedT tabOk (tw := twZ fs sp) ⟨h, hs, look_ok fnsT_ok⟩ N n) N hf.get hf.enter).calls args out hN M w cargs hM hl hr
theorem bit_searchK {α : Type} {f : Int × Int × Unit → Option (LRes (Int × Int × Unit) α)} (bid : Nat) (p : Nat → Bool) (K : Nat)
    (hf : ∀ n k, n % 2 ^ (k + 1) = 0 → n + 2 ^ (k + 1) ≤ 2 ^ K → p n = true → f ((n : Int), ((2 ^ k : Nat) : Int), ()) = some (.cont (((bif p (n + 2 ^ k) then n + 2 ^ k else n : Nat) : Int), ((2 ^ k / 2 : Nat) : Int), ())))
    (hend : ∀ n : Nat, f ((n : Int), 0, ()) = some (.brk bid ((n : Int), 0, ()))) :
    ∀ (k : Nat) (n : Nat), n % 2 ^ k = 0 → n + 2 ^ k ≤ 2 ^ K → p n = true → ∀ N, k < N → iterL N f ((n : Int), ((2 ^ k / 2 : Nat) : Int), ()) = some (.brk bid (((bs p k n : Nat) : Int), 0, ()))
  | 0, n, h1, h2, h3, N, hN => by
    obtain ⟨N, rfl⟩ : ∃ M, N = M + 1 := ⟨N - 1, by omega⟩
    have e : (((2 ^ 0 / 2 : Nat)) : Int) = 0 := rfl
    rw [e]
    simp only [iterL, hend]
    rfl
  | k + 1, n, h1, h2, h3, N, hN => by
    obtain ⟨N, rfl⟩ : ∃ M, N = M + 1 := ⟨N - 1, by omega⟩
    have e0 : 2 ^ (k + 1) / 2 = 2 ^ k := by rw [Nat.pow_succ]; omega
    have e1 : 2 ^ (k + 1) = 2 ^ k + 2 ^ k := by rw [Nat.pow_succ]; omega
    have hd : n % 2 ^ k = 0 := by
      have : (n % 2 ^ (k + 1)) % 2 ^ k = n % 2 ^ k := Nat.mod_mod_of_dvd _ ⟨2, by rw [Nat.pow_succ]⟩
      rw [h1] at this
      simpa using this.symm
    have hf' := hf n k h1 h2 h3
    rw [e0]
    simp only [iterL, hf', bs]
    cases hp : p (n + 2 ^ k)
    · exact bit_searchK bid p K hf hend k n hd (by omega) h3 N (by omega)
    · exact bit_searchK bid p K hf hend k (n + 2 ^ k) (by rw [Nat.add_mod_right]; exact hd) (by omega) hp N (by omega)
theorem cmp3_ge {a b : Int} : (cmp3 a b ≥ 0) ↔ b ≤ a := by
  unfold cmp3
  repeat' split
  all_goals omega
theorem cmp3_le0 {a b : Int} : (cmp3 a b ≤ 0) ↔ a ≤ b := by
  unfold cmp3
  repeat' split
  all_goals omega
def ovB (a b : List Int) : Bool := isD a && isD b && decide (0 < vl b) && decide (vl b < 46768052394588893382517914646921056628989841375232)
def overDS : Fsp := fun _ args k => match args with
  | [.ro (.int .i64) a, .ro (.int .i64) b] => bif ovB a b then k (.ret (.tup [lN (dg (vl a / vl b)), lN (dg (vl a % vl b))])) else none
  | _ => none
section
variable {α : Type} (N : Nat) (b R : List Int)
def ovIn (K : Int → Option α) : Option α :=
  afterL
    (iterL N
      (fun (y : Int × Int × Unit) =>
        bif decide (y.2.1 > 0) then
          bif isD R && isD b then
            bif decide (cmp3 (vl R) (vl b) ≥ 0) then
              bif decide (0 ≤ IntKind.i64.wrap (y.1 + y.2.1)) && decide (IntKind.i64.wrap (y.1 + y.2.1) ≤ 9223372036854775807) then
                bif isD b && isD (dg (IntKind.i64.wrap (y.1 + y.2.1))) then
                  bif isD (dg (vl b * vl (dg (IntKind.i64.wrap (y.1 + y.2.1))))) && isD R then
                    bif decide (cmp3 (vl (dg (vl b * vl (dg (IntKind.i64.wrap (y.1 + y.2.1)))))) (vl R) ≤ 0) then
                      some (LRes.cont (IntKind.i64.wrap (y.1 + y.2.1), IntKind.i64.wrap (y.2.1.tdiv 2), ()))
                    else some (LRes.cont (y.1, IntKind.i64.wrap (y.2.1.tdiv 2), ()))
                  else none
                else none
              else none
            else some (LRes.brk 2 (y.1, y.2.1, ()))
          else none
        else some (LRes.brk 2 (y.1, y.2.1, ())))
      (0, 16384, ()))
    fun id y => if id = 2 then K y.1 else none
end
theorem over_text (N n0 : Nat) (α : Type) (a b : List Int) (k : AOut → Option α) : evFn real tab ((twZ fnB (fun _ => none)).env real tab N n0) N Tryz.f179 α [lN a, lN b] k =
 if 0 ≤ (a.length : Int) ∧ (a.length : Int) ≤ (a.length : Int) ∧ (a.length : Int) * ((8 : Nat) : Int) ≤ (room : Int) then afterL (iterL N (fun (x : List Int × Int × List Int × Unit)
 => bif decide (x.2.1 ≥ 0) then if 0 ≤ x.2.1 ∧ x.2.1 < (a.length : Int) then if ([a.getD x.2.1.toNat (Int.ofNat 0)].length + x.1.length) * 8 ≤ room then ovIn N b (trimL ([a.getD
 x.2.1.toNat (Int.ofNat 0)] ++ x.1)) fun y => if 0 ≤ x.2.1 ∧ x.2.1 < (x.2.2.1.length : Int) then bif decide (0 ≤ y) && decide (y ≤ 9223372036854775807) then bif isD b && isD (dg y)
 then bif isD (trimL ([a.getD x.2.1.toNat (Int.ofNat 0)] ++ x.1)) && isD (dg (vl b * vl (dg y))) && decide (vl (dg (vl b * vl (dg y))) ≤ vl (trimL ([a.getD x.2.1.toNat (Int.ofNat 0)]
 ++ x.1))) then some (LRes.cont (dg (vl (trimL ([a.getD x.2.1.toNat (Int.ofNat 0)] ++ x.1)) - vl (dg (vl b * vl (dg y)))), IntKind.i64.wrap (x.2.1 - 1), x.2.2.1.set x.2.1.toNat y,
 ())) else none else none else none else none else none else none else some (LRes.brk 0 (x.1, x.2.1, x.2.2.1, ()))) ([], IntKind.i64.wrap ((a.length : Int) - 1), List.replicate
 (a.length : Int).toNat (Int.ofNat 0), ())) fun id y => if id = 0 then k (.ret (.tup [lN (trimL y.2.2.1), lN y.1])) else none else none := by kernel_rfl
theorem ovIn_plain {α : Type} {b R : List Int} (hR : isD R = true) (hb : isD b = true) (h0 : 0 < vl b) (h1 : vl b < 46768052394588893382517914646921056628989841375232) (h2 : vl R < 32768 * vl b) (K : Int → Option α) : ovIn 30 b R K = K (vl R / vl b) := by
  unfold ovIn
  generalize hf : (fun y : Int × Int × Unit => (_ : Option (LRes (Int × Int × Unit) α))) = f
  have hR0 := (isD_iff.1 hR).2.1
  by_cases hge : vl b ≤ vl R
  · have e := bit_searchK (f := f) 2 (fun m => decide (vl b * m ≤ vl R)) 15 (fun n k a1 a2 a3 => ?_) (fun n => ?_) 15 0 rfl (by omega) (by simp; exact hR0) 30 (by omega)
    · have e' : iterL 30 f (0, 16384, ()) = some (.brk 2 (((bs (fun m => decide (vl b * m ≤ vl R)) 15 0 : Nat) : Int), 0, ())) := e
      rw [e']
      have hq0 : 0 ≤ vl R / vl b := Int.ediv_nonneg hR0 (Int.le_of_lt h0)
      have hq := Int.emod_add_mul_ediv (vl R) (vl b)
      have hr0 := Int.emod_nonneg (vl R) (show vl b ≠ 0 by omega)
      have hr1 := Int.emod_lt_of_pos (vl R) h0
      have hbs : (vl R / vl b).toNat = bs (fun m => decide (vl b * m ≤ vl R)) 15 0 := bs_eq _ (fun m n hnm hm => by
          simp only [decide_eq_true_eq] at hm ⊢
          have := Int.mul_le_mul_of_nonneg_left (show (n : Int) ≤ m by omega) (Int.le_of_lt h0)
          omega) (by simp; exact hR0) (by simp; omega) (by
          simp only [decide_eq_true_eq]
          rw [show (((vl R / vl b).toNat : Nat) : Int) = vl R / vl b by omega]; omega) (by
          simp only [decide_eq_false_iff_not]
          rw [show ((((vl R / vl b).toNat + 1 : Nat)) : Int) = vl R / vl b + 1 by omega, Int.mul_add]; omega)
      rw [← hbs]
      show K (((vl R / vl b).toNat : Nat) : Int) = _
      rw [show (((vl R / vl b).toNat : Nat) : Int) = vl R / vl b by omega]
    · rw [← hf]
      have p15 : (2 : Nat) ^ 15 = 32768 := rfl
      have hk : 2 ^ (k + 1) = 2 ^ k + 2 ^ k := by rw [Nat.pow_succ]; omega
      have hpos : 0 < 2 ^ k := Nat.two_pow_pos k
      have hw : IntKind.i64.wrap ((n : Int) + ((2 ^ k : Nat) : Int)) = ((n + 2 ^ k : Nat) : Int) := by rw [w64 _ (by omega)]; omega
      have hsh : IntKind.i64.wrap ((((2 ^ k : Nat) : Int)).tdiv 2) = ((2 ^ k / 2 : Nat) : Int) := by
        rw [Int.tdiv_eq_ediv_of_nonneg (by omega), w64 _ (by omega)]; omega
      have m0 : 0 ≤ vl b * ((n + 2 ^ k : Nat) : Int) := Int.mul_nonneg (by omega) (by omega)
      have m1 : vl b * ((n + 2 ^ k : Nat) : Int) ≤ vl b * 32768 := Int.mul_le_mul_of_nonneg_left (by omega) (by omega)
      dsimp only
      rw [decide_eq_true (show ((2 ^ k : Nat) : Int) > 0 by omega), hR, hb, decide_eq_true (cmp3_ge.2 hge), hw, hsh, decide_eq_true (show 0 ≤ ((n + 2 ^ k : Nat) : Int) by omega), decide_eq_true (show ((n + 2 ^ k : Nat) : Int) ≤ 9223372036854775807 by omega), isD_dg (n := ((n + 2 ^ k : Nat) : Int)) ⟨by omega, by omega⟩, vl_dg _ (show 0 ≤ ((n + 2 ^ k : Nat) : Int) by omega), isD_dg ⟨m0, by omega⟩, vl_dg _ m0]
      simp only [Bool.and_self, cond_true]
      by_cases hp : vl b * ((n + 2 ^ k : Nat) : Int) ≤ vl R
      · rw [decide_eq_true (cmp3_le0.2 hp), decide_eq_true hp]; rfl
      · rw [decide_eq_false (fun c => hp (cmp3_le0.1 c)), decide_eq_false hp]; rfl
    · rw [← hf]
      rfl
  · have hstop : f (0, 16384, ()) = some (.brk 2 (0, 16384, ())) := by
      rw [← hf]
      dsimp only
      rw [hR, hb, decide_eq_false (fun c => hge (cmp3_ge.1 c))]
      rfl
    have e : iterL 30 f (0, 16384, ()) = some (.brk 2 (0, 16384, ())) := by simp only [iterL, hstop]
    rw [e, Int.ediv_eq_zero_of_lt hR0 (by omega)]
    rfl
def qSt (a : List Int) (B : Int) : Nat → List Int
  | 0 => List.replicate a.length 0
  | j + 1 => (qSt a B j).set (a.length - 1 - j) ((a.getD (a.length - 1 - j) 0 + 32768 * (vl (a.drop (a.length - j)) % B)) / B)
theorem drop_step {a : List Int} {j : Nat} (hj : j < a.length) : a.drop (a.length - (j + 1)) = a.getD (a.length - 1 - j) 0 :: a.drop (a.length - j) := by
  have hlt : a.length - 1 - j < a.length := by omega
  rw [show a.length - (j + 1) = a.length - 1 - j by omega, List.drop_eq_getElem_cons hlt, List.getD_eq_getElem?_getD, List.getElem?_eq_getElem hlt, show a.length - 1 - j + 1 = a.length - j by omega]
  rfl
structure QIs (a : List Int) (B : Int) (j : Nat) : Prop where
  len : (qSt a B j).length = a.length
  low : low15 (qSt a B j)
  vl : vl ((qSt a B j).drop (a.length - j)) = vl (a.drop (a.length - j)) / B
theorem part_in {a : List Int} {B : Int} (ha : low15 a) (hB : 0 < B) (j : Nat) : 0 ≤ a.getD (a.length - 1 - j) 0 + 32768 * (vl (a.drop (a.length - j)) % B) ∧ a.getD (a.length - 1 - j) 0 + 32768 * (vl (a.drop (a.length - j)) % B) < 32768 * B := by
  have h1 := low_get ha (a.length - 1 - j)
  have h2 := Int.emod_nonneg (vl (a.drop (a.length - j))) (show B ≠ 0 by omega)
  have h3 := Int.emod_lt_of_pos (vl (a.drop (a.length - j))) hB
  omega
theorem q_is {a : List Int} {B : Int} (ha : low15 a) (hB : 0 < B) : ∀ j, j ≤ a.length → QIs a B j
  | 0, _ => ⟨by simp [qSt], fun x hx => by simp [qSt] at hx; omega, by simp [qSt, vl]⟩
  | j + 1, hj => by
    have h := q_is ha hB j (by omega)
    have hp := part_in ha hB j
    have hl := h.len
    have hd : 0 ≤ (a.getD (a.length - 1 - j) 0 + 32768 * (vl (a.drop (a.length - j)) % B)) / B ∧ (a.getD (a.length - 1 - j) 0 + 32768 * (vl (a.drop (a.length - j)) % B)) / B < 32768 :=
      ⟨Int.ediv_nonneg hp.1 (Int.le_of_lt hB), Int.ediv_lt_of_lt_mul hB (by omega)⟩
    refine ⟨by simp [qSt, hl], low_set h.low hd, ?_⟩
    have hq : (qSt a B (j + 1)).length = a.length := by simp [qSt, hl]
    have h4 : (qSt a B (j + 1)).drop (a.length - (j + 1)) = (a.getD (a.length - 1 - j) 0 + 32768 * (vl (a.drop (a.length - j)) % B)) / B :: (qSt a B j).drop (a.length - j) := by
      rw [← hq, drop_step (by omega), hq]
      congr 1
      · simp only [qSt]
        rw [List.getD_eq_getElem?_getD, List.getElem?_set_self (by omega)]; rfl
      · simp only [qSt]
        rw [List.drop_set_of_lt (by omega)]
    rw [h4, drop_step (by omega)]
    simp only [vl]
    rw [h.vl]
    generalize a.getD (a.length - 1 - j) 0 = d
    have e := Int.emod_add_mul_ediv (vl (a.drop (a.length - j))) B
    generalize vl (a.drop (a.length - j)) / B = q at *
    generalize vl (a.drop (a.length - j)) % B = r at *
    rw [← e, show d + 32768 * (r + B * q) = d + 32768 * r + B * (32768 * q) by rw [Int.mul_add, Int.mul_left_comm]; omega, Int.add_mul_ediv_left _ _ (by omega)]
theorem rest_step {a : List Int} {B : Int} (hB : 0 < B) {j : Nat} (hj : j < a.length) : vl (a.drop (a.length - (j + 1))) % B = (a.getD (a.length - 1 - j) 0 + 32768 * (vl (a.drop (a.length - j)) % B)) % B := by
  rw [drop_step hj]
  simp only [vl]
  have e := Int.emod_add_mul_ediv (vl (a.drop (a.length - j))) B
  generalize a.getD (a.length - 1 - j) 0 = d
  generalize vl (a.drop (a.length - j)) / B = q at *
  generalize vl (a.drop (a.length - j)) % B = r at *
  rw [← e, show d + 32768 * (r + B * q) = d + 32768 * r + B * (32768 * q) by rw [Int.mul_add, Int.mul_left_comm]; omega, Int.add_mul_emod_self_left]
theorem over_plain {α : Type} (a b : List Int) (h : ovB a b = true) (k : AOut → Option α) : evFn real tab ((twZ fnB (fun _ => none)).env real tab 30 0) 30 Tryz.f179 α [lN a, lN b] k = k (.ret (.tup [lN (dg (vl a / vl b)), lN (dg (vl a % vl b))])) := by
  rw [over_text]
  simp only [ovB, Bool.and_eq_true, decide_eq_true_eq] at h
  obtain ⟨⟨⟨ha, hb⟩, hB0⟩, hB1⟩ := h
  have la := isD_len ha
  have wa := isD_low ha
  have ha' := isD_iff.1 ha
  rw [if_pos ⟨by omega, by omega, by rw [roomx]; omega⟩]
  generalize hf : (fun x : List Int × Int × List Int × Unit => (_ : Option (LRes (List Int × Int × List Int × Unit) α))) = f
  have e : iterL 30 f ([], IntKind.i64.wrap ((a.length : Int) - 1), List.replicate (a.length : Int).toNat (Int.ofNat 0), ()) = some (.brk 0 (dg (vl a % vl b), -1, qSt a (vl b) a.length, ())) := by
    refine (congrArg (iterL 30 f) ?_).trans (iterL_count (f := f) (fun j : Nat => (dg (vl (a.drop (a.length - j)) % vl b), (a.length : Int) - 1 - j, qSt a (vl b) j, ())) (fun y e => by cases e) a.length (fun j hj => ?_) ?_ 0 (Nat.zero_le _) 30 (by omega))
    · rw [w64 _ (by omega)]
      simp [vl, dg_zero, qSt]
    · rw [← hf]
      have hi : ((a.length : Int) - 1 - j).toNat = a.length - 1 - j := by omega
      have hp := part_in wa hB0 j
      have Q := q_is wa hB0 j (by omega)
      have Ql := Q.len
      have r0 := Int.emod_nonneg (vl (a.drop (a.length - j))) (show vl b ≠ 0 by omega)
      have r1 := Int.emod_lt_of_pos (vl (a.drop (a.length - j))) hB0
      have rl := dg_len (n := vl (a.drop (a.length - j)) % vl b) ⟨r0, by omega⟩
      have hd := low_get wa (a.length - 1 - j)
      have hlow : low15 (a.getD (a.length - 1 - j) 0 :: dg (vl (a.drop (a.length - j)) % vl b)) := fun z hz => by
        rcases List.mem_cons.1 hz with rfl | hz
        · exact hd
        · exact low_dg _ r0 z hz
      have hT : trimL ([a.getD (a.length - 1 - j) 0] ++ dg (vl (a.drop (a.length - j)) % vl b)) = dg (a.getD (a.length - 1 - j) 0 + 32768 * (vl (a.drop (a.length - j)) % vl b)) := by
        rw [List.singleton_append, trim_dg hlow]
        simp only [vl, vl_dg _ r0]
      have hR := isD_dg (n := a.getD (a.length - 1 - j) 0 + 32768 * (vl (a.drop (a.length - j)) % vl b)) ⟨hp.1, by omega⟩
      have hv := vl_dg _ hp.1
      dsimp only
      rw [decide_eq_true (by omega), cond_true, hi, show Int.ofNat 0 = 0 from rfl, if_pos ⟨by omega, by omega⟩, if_pos (by rw [roomx]; simp; omega), hT, ovIn_plain hR hb hB0 hB1 (by rw [hv]; exact hp.2), hv, if_pos ⟨by omega, by omega⟩]
      have hst := rest_step (a := a) hB0 hj
      have hq : qSt a (vl b) (j + 1) = (qSt a (vl b) j).set (a.length - 1 - j) ((a.getD (a.length - 1 - j) 0 + 32768 * (vl (a.drop (a.length - j)) % vl b)) / vl b) := rfl
      rw [hst, hq]
      generalize a.getD (a.length - 1 - j) 0 + 32768 * (vl (a.drop (a.length - j)) % vl b) = R at *
      have q0 : 0 ≤ R / vl b := Int.ediv_nonneg hp.1 (Int.le_of_lt hB0)
      have q1 : R / vl b < 32768 := Int.ediv_lt_of_lt_mul hB0 (by omega)
      have eq := Int.emod_add_mul_ediv R (vl b)
      have s0 := Int.emod_nonneg R (show vl b ≠ 0 by omega)
      have m0 : 0 ≤ vl b * (R / vl b) := Int.mul_nonneg (by omega) q0
      rw [decide_eq_true q0, decide_eq_true (show R / vl b ≤ 9223372036854775807 by omega), hb, isD_dg (n := R / vl b) ⟨q0, by omega⟩, vl_dg _ q0, hR, isD_dg (n := vl b * (R / vl b)) ⟨m0, by omega⟩, vl_dg _ m0, decide_eq_true (show vl b * (R / vl b) ≤ R by omega), w64 _ (by omega)]
      simp only [Bool.and_self, cond_true]
      rw [show R - vl b * (R / vl b) = R % vl b by omega, show (a.length : Int) - 1 - j - 1 = (a.length : Int) - 1 - ((j + 1 : Nat) : Int) by omega]
    · rw [← hf]
      simp only [decide_eq_false (show ¬ (a.length : Int) - 1 - a.length ≥ 0 by omega), cond_false, Nat.sub_self, List.drop_zero]
      rw [show (a.length : Int) - 1 - a.length = -1 by omega]
  have Q := q_is wa hB0 a.length (Nat.le_refl _)
  have Qv := Q.vl
  rw [Nat.sub_self, List.drop_zero, List.drop_zero] at Qv
  rw [e]
  show k (.ret (.tup [lN (trimL (qSt a (vl b) a.length)), lN (dg (vl a % vl b))])) = _
  rw [trim_dg Q.low, Qv]
theorem overDS_ok : FspOk Tryz.prog 179 overDS := tower_Z fnB_ok sp_nil ⟨Tryz.func179, fun _ _ => by kernel_rfl⟩ (by intro α args k; unfold overDS; split <;> simp only [cond_bind, Option.bind_some, Option.bind_none]) fun args out hs h => by
  unfold overDS at h
  split at h
  · rename_i a b
    cases hb : ovB a b
    · rw [hb] at h; cases h
    · rw [hb] at h
      exact ⟨30, 0, (over_plain a b hb some).trans h⟩
  · cases h
end Go.Proofs.YtgpljldfbhkdlaaGreat

namespace Go.Proofs.YtgpljldfbhkdlaaGreat
open Go.RowKit
def fnC : FuncId → Option Fsp := fun g =>
  if g = 179 then some overDS else
  fnB g
theorem fnC_ok : FsOk fnC :=
  fs_cons overDS_ok <|
  fnB_ok
def i7 (x : Int) : Bool := decide (-9223372036854775807 ≤ x) && decide (x ≤ 9223372036854775807)
theorem i7_iff {x : Int} : i7 x = true ↔ -9223372036854775807 ≤ x ∧ x ≤ 9223372036854775807 := by simp [i7]
theorem i7_ok {x : Int} (h : okB x = true) : i7 x = true := by rw [ok_iff] at h; rw [i7_iff]; omega
theorem i7_ab {x : Int} (h : i7 x = true) : 0 ≤ ab x ∧ ab x ≤ 9223372036854775807 := by rw [i7_iff] at h; unfold ab; split <;> omega
def rsizeS : Fsp := fun _ args k => match args with
  | [.int .i64 x] => bif i7 x then k (i1 (ab x)) else none
  | _ => none
theorem rsize_text (N n0 : Nat) (α : Type) (x : Int) (k : AOut → Option α) : evFn real tab ((twT fnC (fun _ => none)).env real tab N n0) N Tryz.f140 α [iN x] k = bif decide (x < 0) then k (i1 (IntKind.i64.wrap (0 - x))) else k (i1 x) := by kernel_rfl
theorem rsizeS_ok : FspOk Tryz.prog 140 rsizeS := tower_S fnC_ok sp_nil ⟨Tryz.func140, fun _ _ => by kernel_rfl⟩ (by intro α args k; unfold rsizeS; split <;> simp only [cond_bind, Option.bind_some, Option.bind_none]) fun args out hs h => by
  unfold rsizeS at h
  split at h
  · rename_i x
    cases hb : i7 x
    · rw [hb] at h; cases h
    · rw [hb, cond_true] at h
      rw [i7_iff] at hb
      refine ⟨1, 0, (rsize_text 1 0 AOut x some).trans (Eq.trans ?_ h)⟩
      unfold ab
      by_cases hx : x < 0
      · rw [decide_eq_true hx, cond_true, if_pos hx, w64 _ (by omega), Int.zero_sub]
      · rw [decide_eq_false hx, cond_false, if_neg hx]
  · cases h
def rdQ (a b : List Int) : Int := bif smB (vl a / vl b) then vl a / vl b else 0
def rdN (a b : List Int) (m : Bool) (how : Int) : Int := sg m (rdQ a b + (bif up1 how m (vl a % vl b) (vl b) then 1 else 0))
def roundS : Fsp := fun _ args k => match args with
  | [.ro (.int .i64) a, .ro (.int .i64) b, .bool m, .int .i64 how] => bif ovB a b && wayB how then k (.ret (.tup [iN (rdN a b m how), bN (smB (vl a / vl b))])) else none
  | _ => none
section
variable {α : Type}
def rdOut (m : Bool) (n : Int) (s : Bool) (k : AOut → Option α) : Option α :=
  bif m then k (.ret (.tup [iN (IntKind.i64.wrap (0 - n)), bN s])) else k (.ret (.tup [iN n, bN s]))
def rdMore (a b : List Int) (m : Bool) (k : AOut → Option α) : Option α :=
  bif decide (((dg (vl a % vl b)).length : Int) > 0) then rdOut m (IntKind.i64.wrap ((bif smB (vl (dg (vl a / vl b))) then vl (dg (vl a / vl b)) else 0) + 1)) (smB (vl (dg (vl a / vl b)))) k
  else rdOut m (bif smB (vl (dg (vl a / vl b))) then vl (dg (vl a / vl b)) else 0) (smB (vl (dg (vl a / vl b)))) k
def rdLess (a b : List Int) (m : Bool) (k : AOut → Option α) : Option α :=
  rdOut m (bif smB (vl (dg (vl a / vl b))) then vl (dg (vl a / vl b)) else 0) (smB (vl (dg (vl a / vl b)))) k
def rdText (M : Option α) (a b : List Int) : Option α :=
  bif ovB a b then bif isD (dg (vl a / vl b)) then M else none else none
end
theorem round0_text (N n0 : Nat) (α : Type) (a b : List Int) (m : Bool) (k : AOut → Option α) : evFn real tab ((twT fnC (fun _ => none)).env real tab N n0) N Tryz.f142 α [lN a, lN b, .bool m, iN 0] k = rdText (rdLess a b m k) a b := by kernel_rfl
theorem round1_text (N n0 : Nat) (α : Type) (a b : List Int) (m : Bool) (k : AOut → Option α) : evFn real tab ((twT fnC (fun _ => none)).env real tab N n0) N Tryz.f142 α [lN a, lN b, .bool m, iN 1] k = rdText (bif m then rdMore a b m k else rdLess a b m k) a b := by kernel_rfl
theorem round2_text (N n0 : Nat) (α : Type) (a b : List Int) (m : Bool) (k : AOut → Option α) : evFn real tab ((twT fnC (fun _ => none)).env real tab N n0) N Tryz.f142 α [lN a, lN b, .bool m, iN 2] k = rdText (bif !m then rdMore a b m k else rdLess a b m k) a b := by kernel_rfl
theorem round3_text (N n0 : Nat) (α : Type) (a b : List Int) (m : Bool) (k : AOut → Option α) : evFn real tab ((twT fnC (fun _ => none)).env real tab N n0) N Tryz.f142 α [lN a, lN b, .bool m, iN 3] k =
 rdText (bif isD (dg (vl a % vl b)) && isD (dg (vl a % vl b)) then bif isD (dg (vl (dg (vl a % vl b)) + vl (dg (vl a % vl b)))) && isD b then bif decide (cmp3 (vl (dg (vl (dg (vl a %
 vl b)) + vl (dg (vl a % vl b))))) (vl b) ≥ 0) then rdMore a b m k else rdLess a b m k else none else none) a b := by kernel_rfl
structure OvIs (a b : List Int) : Prop where
  q : 0 ≤ vl a / vl b ∧ vl a / vl b < 1532495540865888858358347027150309183618739122183602176
  r : 0 ≤ vl a % vl b ∧ vl a % vl b < vl b
  bb : vl b < 46768052394588893382517914646921056628989841375232
  db : isD b = true
theorem ov_is {a b : List Int} (h : ovB a b = true) : OvIs a b := by
  simp only [ovB, Bool.and_eq_true, decide_eq_true_eq] at h
  obtain ⟨⟨⟨ha, hb⟩, h0⟩, h1⟩ := h
  have ha := isD_iff.1 ha
  exact ⟨⟨Int.ediv_nonneg ha.2.1 (Int.le_of_lt h0), by have := Int.ediv_le_self (vl b) ha.2.1; omega⟩, ⟨Int.emod_nonneg _ (by omega), Int.emod_lt_of_pos _ h0⟩, h1, hb⟩
theorem sm_le {n : Int} : (bif smB n then n else 0) ≤ 1152921504606846975 := by
  unfold smB
  by_cases h : n < 1152921504606846976
  · rw [decide_eq_true h]; simp only [cond_true]; omega
  · rw [decide_eq_false h]; simp
theorem sm_nn {n : Int} (h : 0 ≤ n) : 0 ≤ (bif smB n then n else 0) := by cases smB n <;> simp <;> omega
theorem rdOut_eq {α : Type} {n : Int} (m s : Bool) (h : 0 ≤ n ∧ n ≤ 1152921504606846976) (k : AOut → Option α) : rdOut m n s k = k (.ret (.tup [iN (sg m n), bN s])) := by
  unfold rdOut sg
  cases m
  · rfl
  · rw [cond_true, cond_true, w64 _ (by omega), Int.zero_sub]
theorem rd_fin {α : Type} {a b : List Int} (h : ovB a b = true) (m : Bool) (how : Int) (k : AOut → Option α) (c : Bool) (hc : 0 < vl a % vl b → up1 how m (vl a % vl b) (vl b) = c) :
    rdText (bif c then rdMore a b m k else rdLess a b m k) a b = k (.ret (.tup [iN (rdN a b m how), bN (smB (vl a / vl b))])) := by
  have O := ov_is h
  have v := vl_dg _ O.q.1
  have s1 := sm_le (n := vl a / vl b)
  have s0 := sm_nn O.q.1
  unfold rdText rdMore rdLess rdN rdQ
  rw [h, isD_dg O.q, v, cond_true, cond_true]
  by_cases hr : 0 < vl a % vl b
  · have hlen : 0 < (dg (vl a % vl b)).length := List.length_pos_iff.2 fun e => by have := (dg_nil O.r.1).1 e; omega
    rw [hc hr, decide_eq_true (show ((dg (vl a % vl b)).length : Int) > 0 by omega), cond_true]
    cases c
    · rw [cond_false, cond_false, rdOut_eq _ _ (by omega), Int.add_zero]
    · rw [cond_true, cond_true, w64 _ (by omega), rdOut_eq _ _ (by omega)]
  · have hz : vl a % vl b = 0 := by have := O.r.1; omega
    have hu : up1 how m (vl a % vl b) (vl b) = false := by unfold up1; rw [decide_eq_false hr]; rfl
    rw [hu, hz, dg_zero, cond_false, Int.add_zero]
    have hd : decide (((List.length ([] : List Int) : Nat) : Int) > 0) = false := rfl
    rw [hd, cond_false, rdOut_eq _ _ (by omega)]
    cases c <;> rfl
theorem round_plain {α : Type} (N n0 : Nat) {a b : List Int} (h : ovB a b = true) (m : Bool) {how : Int} (hw : wayB how = true) (k : AOut → Option α) : evFn real tab ((twT fnC (fun _ => none)).env real tab N n0) N Tryz.f142 α [lN a, lN b, .bool m, iN how] k = k (.ret (.tup [iN (rdN a b m how), bN (smB (vl a / vl b))])) := by
  have O := ov_is h
  rcases way_cases hw with rfl | rfl | rfl | rfl
  · exact (round0_text N n0 α a b m k).trans (rd_fin h m 0 k false fun hr => by unfold up1; rw [decide_eq_true hr]; rfl)
  · exact (round1_text N n0 α a b m k).trans (rd_fin h m 1 k m fun hr => by unfold up1; rw [decide_eq_true hr]; rfl)
  · exact (round2_text N n0 α a b m k).trans (rd_fin h m 2 k (!m) fun hr => by unfold up1; rw [decide_eq_true hr]; rfl)
  · refine (round3_text N n0 α a b m k).trans (Eq.trans ?_ (rd_fin h m 3 k (decide (vl b ≤ vl a % vl b + vl a % vl b)) fun hr => by unfold up1; rw [decide_eq_true hr]; rfl))
    have r0 := O.r
    have b0 := O.bb
    congr 1
    rw [isD_dg ⟨r0.1, by omega⟩, vl_dg _ r0.1, isD_dg ⟨by omega, by omega⟩, vl_dg _ (by omega), O.db]
    simp only [Bool.and_self, cond_true]
    rw [decide_eq_decide.2 cmp3_ge]
theorem roundS_ok : FspOk Tryz.prog 142 roundS := tower_S fnC_ok sp_nil ⟨Tryz.func142, fun _ _ => by kernel_rfl⟩ (by intro α args k; unfold roundS; split <;> simp only [cond_bind, Option.bind_some, Option.bind_none]) fun args out hs h => by
  unfold roundS at h
  split at h
  · rename_i a b m how
    cases hb : ovB a b && wayB how
    · rw [hb] at h; cases h
    · rw [hb] at h
      rw [Bool.and_eq_true] at hb
      exact ⟨1, 0, (round_plain 1 0 hb.1 m hb.2 some).trans h⟩
  · cases h
def fnD : FuncId → Option Fsp := fun g =>
  if g = 140 then some rsizeS else
  if g = 142 then some roundS else
  fnC g
theorem fnD_ok : FsOk fnD :=
  fs_cons rsizeS_ok <|
  fs_cons roundS_ok <|
  fnC_ok
end Go.Proofs.YtgpljldfbhkdlaaGreat

namespace Go.Proofs.YtgpljldfbhkdlaaGreat
open Go.RowKit
def rvalidS : Fsp := fun _ args k => match args with
  | [.int .i64 x] => k (b1 (okB x))
  | _ => none
theorem rvalid_text (N n0 : Nat) (α : Type) (x : Int) (k : AOut → Option α) : evFn real tab ((twT fnD (fun _ => none)).env real tab N n0) N Tryz.f136 α [iN x] k = bif decide (x ≥ -70368744177664) then k (b1 (decide (x ≤ 70368744177664))) else k (b1 false) := by kernel_rfl
theorem rvalidS_ok : FspOk Tryz.prog 136 rvalidS := tower_S fnD_ok sp_nil ⟨Tryz.func136, fun _ _ => by kernel_rfl⟩ (by intro α args k; unfold rvalidS; split <;> rfl) fun args out hs h => by
  unfold rvalidS at h
  split at h
  · rename_i x
    refine ⟨1, 0, (rvalid_text 1 0 AOut x some).trans (Eq.trans ?_ h)⟩
    have : okB x = (decide (x ≥ -70368744177664) && decide (x ≤ 70368744177664)) := rfl
    rw [this]
    cases decide (x ≥ -70368744177664) <;> rfl
  · cases h
def rwayS : Fsp := fun _ args k => match args with
  | [.int .i64 x] => k (b1 (wayB x))
  | _ => none
theorem rway_text (N n0 : Nat) (α : Type) (x : Int) (k : AOut → Option α) : evFn real tab ((twT fnD (fun _ => none)).env real tab N (n0 + 1)) N Tryz.f137 α [iN x] k = bif decide (0 ≤ x) then k (b1 (decide (x ≤ 3))) else k (b1 false) := by kernel_rfl
theorem rwayS_ok : FspOk Tryz.prog 137 rwayS := tower_S fnD_ok sp_nil ⟨Tryz.func137, fun _ _ => by kernel_rfl⟩ (by intro α args k; unfold rwayS; split <;> rfl) fun args out hs h => by
  unfold rwayS at h
  split at h
  · rename_i x
    refine ⟨1, 1, (rway_text 1 0 AOut x some).trans (Eq.trans ?_ h)⟩
    unfold wayB
    cases decide (0 ≤ x) <;> rfl
  · cases h
def squareDS : Fsp := fun _ args k => match args with
  | [.agg [.int .i64 x, .int .i64 y]] => bif i7 x && i7 y then k (l1 (dg (sq2 x y))) else none
  | _ => none
theorem i7_D {x : Int} (h : i7 x = true) : isD (dg (ab x)) = true ∧ vl (dg (ab x)) = ab x ∧ (0 ≤ ab x * ab x ∧ ab x * ab x ≤ 85070591730234615847396907784232501249) := by
  have a := i7_ab h
  exact ⟨isD_dg ⟨a.1, by omega⟩, vl_dg _ a.1, sq_in' a.1 a.2⟩
where
  sq_in' {x B : Int} (h0 : 0 ≤ x) (h1 : x ≤ B) : 0 ≤ x * x ∧ x * x ≤ B * B := ⟨Int.mul_nonneg h0 h0, Int.mul_le_mul h1 h1 h0 (by omega)⟩
theorem squareD_text (N n0 : Nat) (α : Type) (x y : Int) (k : AOut → Option α) : evFn real tab ((twT fnD (fun _ => none)).env real tab N n0) N Tryz.f168 α [sN x y] k =
 bif i7 x then bif decide (0 ≤ ab x) && decide (ab x ≤ 9223372036854775807) then bif i7 y then bif decide (0 ≤ ab y) && decide (ab y ≤ 9223372036854775807) then bif isD (dg (ab x))
 && isD (dg (ab x)) then bif isD (dg (ab y)) && isD (dg (ab y)) then bif isD (dg (vl (dg (ab x)) * vl (dg (ab x)))) && isD (dg (vl (dg (ab y)) * vl (dg (ab y)))) then k (l1 (dg (vl
 (dg (vl (dg (ab x)) * vl (dg (ab x)))) + vl (dg (vl (dg (ab y)) * vl (dg (ab y))))))) else none else none else none else none else none else none else none := by kernel_rfl
theorem squareDS_ok : FspOk Tryz.prog 168 squareDS := tower_S fnD_ok sp_nil ⟨Tryz.func168, fun _ _ => by kernel_rfl⟩ (by intro α args k; unfold squareDS; split <;> simp only [cond_bind, Option.bind_some, Option.bind_none]) fun args out hs h => by
  unfold squareDS at h
  split at h
  · rename_i x y
    cases hb : i7 x && i7 y
    · rw [hb] at h; cases h
    · rw [hb, cond_true] at h
      rw [Bool.and_eq_true] at hb
      obtain ⟨hx, hy⟩ := hb
      refine ⟨1, 0, (squareD_text 1 0 AOut x y some).trans (Eq.trans ?_ h)⟩
      have a := i7_ab hx
      have b := i7_ab hy
      obtain ⟨x1, x2, x3⟩ := i7_D hx
      obtain ⟨y1, y2, y3⟩ := i7_D hy
      rw [hx, hy, decide_eq_true a.1, decide_eq_true a.2, decide_eq_true b.1, decide_eq_true b.2, x1, y1, x2, y2, isD_dg ⟨x3.1, by omega⟩, isD_dg ⟨y3.1, by omega⟩, vl_dg _ x3.1, vl_dg _ y3.1]
      rfl
  · cases h
/-! Shares. -/
def shD (x : Int) (s : List Int) : Bool := i7 x && isD s && (decide (0 < vl s) && decide (vl s < 1393796574908163946345982392040522594123776)) && decide (ab x * ab x ≤ vl s)
noncomputable def shareDS : Fsp := fun _ args k => match args with
  | [.int .i64 x, .ro (.int .i64) s] => bif shD x s then k (i1 (sg (ngB x) (shr (ab x) (vl s)))) else none
  | _ => none
section
variable {α : Type} (N : Nat) (X : Int) (a : List Int)
def shLoop (K : Int → Option α) : Option α :=
  afterL
    (iterL N
      (fun (y : Int × Int × Unit) =>
        bif decide (y.2.1 > 0) then
          bif decide (0 ≤ IntKind.i64.wrap (y.1 + y.2.1)) && decide (IntKind.i64.wrap (y.1 + y.2.1) ≤ 9223372036854775807) then
            bif isD (dg (IntKind.i64.wrap (y.1 + y.2.1))) && isD (dg (IntKind.i64.wrap (y.1 + y.2.1))) then
              bif isD (dg (vl (dg (IntKind.i64.wrap (y.1 + y.2.1))) * vl (dg (IntKind.i64.wrap (y.1 + y.2.1))))) && isD a then
                bif isD (dg (vl (dg (vl (dg (IntKind.i64.wrap (y.1 + y.2.1))) * vl (dg (IntKind.i64.wrap (y.1 + y.2.1))))) * vl a)) && isD (dg (vl (dg (vl (dg X) * vl (dg X))) * vl (dg (IntKind.i64.wrap (1 * 2 ^ min (Int.toNat 32) 64))))) then
                  bif decide (cmp3 (vl (dg (vl (dg (vl (dg (IntKind.i64.wrap (y.1 + y.2.1))) * vl (dg (IntKind.i64.wrap (y.1 + y.2.1))))) * vl a))) (vl (dg (vl (dg (vl (dg X) * vl (dg X))) * vl (dg (IntKind.i64.wrap (1 * 2 ^ min (Int.toNat 32) 64)))))) ≤ 0) then
                    some (LRes.cont (IntKind.i64.wrap (y.1 + y.2.1), IntKind.i64.wrap (y.2.1.tdiv 2), ()))
                  else some (LRes.cont (y.1, IntKind.i64.wrap (y.2.1.tdiv 2), ()))
                else none
              else none
            else none
          else none
        else some (LRes.brk 0 (y.1, y.2.1, ())))
      (0, 65536, ()))
    fun id y => if id = 0 then K y.1 else none
end
theorem shareD_text (N n0 : Nat) (α : Type) (x : Int) (a : List Int) (k : AOut → Option α) : evFn real tab ((twT fnD (fun _ => none)).env real tab N (n0 + 1)) N Tryz.f169 α [iN x, lN a] k =
 bif i7 x then bif decide (0 ≤ ab x) && decide (ab x ≤ 9223372036854775807) then bif isD (dg (ab x)) && isD (dg (ab x)) then bif isD (dg (vl (dg (ab x)) * vl (dg (ab x)))) && isD (dg
 (IntKind.i64.wrap (1 * 2 ^ min (Int.toNat 32) 64))) then shLoop N (ab x) a fun y => bif decide (x < 0) then k (i1 (IntKind.i64.wrap (0 - y))) else k (i1 y) else none else none else
 none else none := by kernel_rfl
def shPn (X s : Int) (m : Nat) : Bool := decide ((m : Int) * m * s ≤ 4294967296 * (X * X))
theorem shr_bs (X s : Int) : shr X s = ((bs (shPn X s) 17 0 : Nat) : Int) := by rw [shr_C]; rfl
theorem shLoop_plain {α : Type} {X : Int} {a : List Int} (hX : 0 ≤ X ∧ X ≤ 9223372036854775807) (ha : isD a = true) (h0 : 0 < vl a) (h1 : vl a < 1393796574908163946345982392040522594123776) (h2 : X * X ≤ vl a) (K : Int → Option α) :
    shLoop 30 X a K = K (shr X (vl a)) ∧ 0 ≤ shr X (vl a) ∧ shr X (vl a) ≤ 131072 := by
  have sX : 0 ≤ X * X ∧ X * X ≤ 85070591730234615847396907784232501249 := i7_D.sq_in' hX.1 hX.2
  have two : IntKind.i64.wrap (1 * 2 ^ min (Int.toNat 32) 64) = 4294967296 := by decide
  have hbs := bs_spec (shPn X (vl a)) (fun m n hnm hm => by
      simp only [shPn, decide_eq_true_eq] at hm ⊢
      have : (n : Int) * n ≤ m * m := Int.mul_le_mul (by omega) (by omega) (by omega) (by omega)
      have := Int.mul_le_mul_of_nonneg_right this (Int.le_of_lt h0)
      omega) 17 0 (by
      simp only [shPn, decide_eq_true_eq]
      have : ((0 : Nat) : Int) * ((0 : Nat) : Int) * vl a = 0 := by simp
      omega) (by
      simp only [shPn, decide_eq_false_iff_not, Int.not_le]
      have e : (((0 + 2 ^ 17 : Nat)) : Int) = 131072 := by decide
      rw [e]
      omega)
  refine ⟨?_, by rw [shr_bs]; omega, by rw [shr_bs]; have : (2 : Nat) ^ 17 = 131072 := rfl; omega⟩
  unfold shLoop
  generalize hf : (fun y : Int × Int × Unit => (_ : Option (LRes (Int × Int × Unit) α))) = f
  have e := bit_searchK (f := f) 0 (shPn X (vl a)) 17 (fun n k a1 a2 a3 => ?_) (fun n => ?_) 17 0 rfl (by omega) (by
      simp only [shPn, decide_eq_true_eq]
      have : ((0 : Nat) : Int) * ((0 : Nat) : Int) * vl a = 0 := by simp
      omega) 30 (by omega)
  · have e' : iterL 30 f (0, 65536, ()) = some (.brk 0 (((bs (shPn X (vl a)) 17 0 : Nat) : Int), 0, ())) := e
    rw [e', shr_bs]
    rfl
  · rw [← hf]
    have p17 : (2 : Nat) ^ 17 = 131072 := rfl
    have hk : 2 ^ (k + 1) = 2 ^ k + 2 ^ k := by rw [Nat.pow_succ]; omega
    have hpos : 0 < 2 ^ k := Nat.two_pow_pos k
    have hw : IntKind.i64.wrap ((n : Int) + ((2 ^ k : Nat) : Int)) = ((n + 2 ^ k : Nat) : Int) := by rw [w64 _ (by omega)]; omega
    have hsh : IntKind.i64.wrap ((((2 ^ k : Nat) : Int)).tdiv 2) = ((2 ^ k / 2 : Nat) : Int) := by
      rw [Int.tdiv_eq_ediv_of_nonneg (by omega), w64 _ (by omega)]; omega
    have hm : (0 : Int) ≤ ((n + 2 ^ k : Nat) : Int) ∧ ((n + 2 ^ k : Nat) : Int) ≤ 131072 := by omega
    have hp : shPn X (vl a) (n + 2 ^ k) = decide (((n + 2 ^ k : Nat) : Int) * ((n + 2 ^ k : Nat) : Int) * vl a ≤ 4294967296 * (X * X)) := rfl
    have m2 := i7_D.sq_in' hm.1 hm.2
    have hpos2 : ((2 ^ k : Nat) : Int) > 0 := by omega
    dsimp only
    rw [decide_eq_true hpos2, hw, hsh, hp]
    generalize hme : ((n + 2 ^ k : Nat) : Int) = m at *
    have m3 : 0 ≤ m * m * vl a := Int.mul_nonneg m2.1 (by omega)
    have m4 : m * m * vl a ≤ 17179869184 * 1393796574908163946345982392040522594123776 := Int.mul_le_mul m2.2 (by omega) (by omega) (by omega)
    rw [decide_eq_true hm.1, decide_eq_true (show m ≤ 9223372036854775807 by omega), isD_dg (n := m) ⟨hm.1, by omega⟩, vl_dg _ hm.1, isD_dg (n := m * m) ⟨m2.1, by omega⟩, vl_dg _ m2.1, ha, isD_dg (n := m * m * vl a) ⟨m3, by omega⟩, vl_dg _ m3, two, vl_dg X hX.1, vl_dg _ sX.1, vl_dg 4294967296 (by omega), isD_dg (n := X * X * 4294967296) ⟨by omega, by omega⟩, vl_dg _ (show 0 ≤ X * X * 4294967296 by omega)]
    simp only [Bool.and_self, cond_true]
    by_cases hq : m * m * vl a ≤ 4294967296 * (X * X)
    · rw [decide_eq_true (cmp3_le0.2 (show m * m * vl a ≤ X * X * 4294967296 by omega)), decide_eq_true hq]
      simp only [cond_true]
      rw [← hme]
    · rw [decide_eq_false (fun c => hq (by have := cmp3_le0.1 c; omega)), decide_eq_false hq]
      rfl
  · rw [← hf]
    rfl
theorem shareDS_ok : FspOk Tryz.prog 169 shareDS := tower_S fnD_ok sp_nil ⟨Tryz.func169, fun _ _ => by kernel_rfl⟩ (by intro α args k; unfold shareDS; split <;> simp only [cond_bind, Option.bind_some, Option.bind_none]) fun args out hs h => by
  unfold shareDS at h
  split at h
  · rename_i x s
    cases hb : shD x s
    · rw [hb] at h; cases h
    · rw [hb, cond_true] at h
      simp only [shD, Bool.and_eq_true, decide_eq_true_eq] at hb
      obtain ⟨⟨⟨hx, hs'⟩, h0, h1⟩, h2⟩ := hb
      refine ⟨30, 1, (shareD_text 30 0 AOut x s some).trans (Eq.trans ?_ h)⟩
      have a := i7_ab hx
      obtain ⟨x1, x2, x3⟩ := i7_D hx
      have two : IntKind.i64.wrap (1 * 2 ^ min (Int.toNat 32) 64) = 4294967296 := by decide
      have L := fun K => shLoop_plain (α := AOut) a hs' h0 h1 h2 K
      rw [hx, decide_eq_true a.1, decide_eq_true a.2, x1, x2, isD_dg ⟨x3.1, by omega⟩, two, isD_dg (n := 4294967296) ⟨by omega, by omega⟩]
      simp only [Bool.and_self, cond_true]
      rw [(L _).1]
      have hr := (shLoop_plain (α := AOut) a hs' h0 h1 h2 fun _ => none).2
      unfold sg ngB
      cases decide (x < 0)
      · rfl
      · rw [cond_true, cond_true, w64 _ (by omega), Int.zero_sub]
  · cases h
/-! Numbers with a sign. -/
def rprodS : Fsp := fun _ args k => match args with
  | [.int .i64 a, .int .i64 b] => bif i7 a && i7 b then k (.ret (.agg [bN (xorB (ngB a) (ngB b)), lN (dg (ab a * ab b))])) else none
  | _ => none
theorem rprod_text (N n0 : Nat) (α : Type) (a b : Int) (k : AOut → Option α) : evFn real tab ((twT fnD (fun _ => none)).env real tab N (n0 + 1)) N Tryz.f204 α [iN a, iN b] k =
 bif i7 a then bif decide (0 ≤ ab a) && decide (ab a ≤ 9223372036854775807) then bif i7 b then bif decide (0 ≤ ab b) && decide (ab b ≤ 9223372036854775807) then bif isD (dg (ab a))
 && isD (dg (ab b)) then k (.ret (.agg [bN (!(decide (a < 0) == decide (b < 0))), lN (dg (vl (dg (ab a)) * vl (dg (ab b))))])) else none else none else none else none else none := by
 kernel_rfl
theorem rprodS_ok : FspOk Tryz.prog 204 rprodS := tower_S fnD_ok sp_nil ⟨Tryz.func204, fun _ _ => by kernel_rfl⟩ (by intro α args k; unfold rprodS; split <;> simp only [cond_bind, Option.bind_some, Option.bind_none]) fun args out hs h => by
  unfold rprodS at h
  split at h
  · rename_i x y
    cases hb : i7 x && i7 y
    · rw [hb] at h; cases h
    · rw [hb, cond_true] at h
      rw [Bool.and_eq_true] at hb
      obtain ⟨hx, hy⟩ := hb
      refine ⟨1, 1, (rprod_text 1 0 AOut x y some).trans (Eq.trans ?_ h)⟩
      have a := i7_ab hx
      have b := i7_ab hy
      obtain ⟨x1, x2, x3⟩ := i7_D hx
      obtain ⟨y1, y2, y3⟩ := i7_D hy
      rw [hx, hy, decide_eq_true a.1, decide_eq_true a.2, decide_eq_true b.1, decide_eq_true b.2, x1, y1, x2, y2]
      rfl
  · cases h
end Go.Proofs.YtgpljldfbhkdlaaGreat

namespace Go.Proofs.YtgpljldfbhkdlaaGreat
open Go.RowKit
def sumB (m n : Bool) (p q : Int) : Bool := bif m == n then m else bif decide (q ≤ p) then m else n
def sumV (m n : Bool) (p q : Int) : Int := bif m == n then p + q else bif decide (q ≤ p) then p - q else q - p
def rsumS : Fsp := fun _ args k => match args with
  | [.agg [.bool m, .ro (.int .i64) p], .agg [.bool n, .ro (.int .i64) q]] => bif isD p && isD q then k (.ret (.agg [bN (sumB m n (vl p) (vl q)), lN (dg (sumV m n (vl p) (vl q)))])) else none
  | _ => none
theorem rsum_text (N n0 : Nat) (α : Type) (m n : Bool) (p q : List Int) (k : AOut → Option α) : evFn real tab ((twT fnD (fun _ => none)).env real tab N n0) N Tryz.f205 α [.agg [bN m, lN p], .agg [bN n, lN q]] k =
 bif m == n then bif isD p && isD q then k (.ret (.agg [bN m, lN (dg (vl p + vl q))])) else none else bif isD p && isD q then bif decide (cmp3 (vl p) (vl q) ≥ 0) then bif isD p &&
 isD q && decide (vl q ≤ vl p) then k (.ret (.agg [bN m, lN (dg (vl p - vl q))])) else none else bif isD q && isD p && decide (vl p ≤ vl q) then k (.ret (.agg [bN n, lN (dg (vl q -
 vl p))])) else none else none := by kernel_rfl
theorem rsumS_ok : FspOk Tryz.prog 205 rsumS := tower_S fnD_ok sp_nil ⟨Tryz.func205, fun _ _ => by kernel_rfl⟩ (by intro α args k; unfold rsumS; split <;> simp only [cond_bind, Option.bind_some, Option.bind_none]) fun args out hs h => by
  unfold rsumS at h
  split at h
  · rename_i m p n q
    cases hb : isD p && isD q
    · rw [hb] at h; cases h
    · rw [hb, cond_true] at h
      rw [Bool.and_eq_true] at hb
      obtain ⟨hp, hq⟩ := hb
      refine ⟨1, 0, (rsum_text 1 0 AOut m n p q some).trans (Eq.trans ?_ h)⟩
      unfold sumB sumV
      rw [hp, hq]
      simp only [Bool.and_self, cond_true, Bool.true_and]
      cases m == n
      · by_cases c : vl q ≤ vl p
        · rw [decide_eq_true (cmp3_ge.2 c), decide_eq_true c]; rfl
        · rw [decide_eq_false (fun d => c (cmp3_ge.1 d)), decide_eq_false c, decide_eq_true (show vl p ≤ vl q by omega)]; rfl
      · rfl
  · cases h
def fnE : FuncId → Option Fsp := fun g =>
  if g = 204 then some rprodS else
  fnD g
theorem fnE_ok : FsOk fnE :=
  fs_cons rprodS_ok <|
  fnD_ok
def fnF : FuncId → Option Fsp := fun g =>
  if g = 205 then some rsumS else
  fnE g
theorem fnF_ok : FsOk fnF :=
  fs_cons rsumS_ok <|
  fnE_ok
def fnG : FuncId → Option Fsp := fun g =>
  if g = 136 then some rvalidS else
  fnF g
theorem fnG_ok : FsOk fnG :=
  fs_cons rvalidS_ok <|
  fnF_ok
def fnH : FuncId → Option Fsp := fun g =>
  if g = 137 then some rwayS else
  fnG g
theorem fnH_ok : FsOk fnH :=
  fs_cons rwayS_ok <|
  fnG_ok
def fnI : FuncId → Option Fsp := fun g =>
  if g = 168 then some squareDS else
  fnH g
theorem fnI_ok : FsOk fnI :=
  fs_cons squareDS_ok <|
  fnH_ok
noncomputable def fnJ : FuncId → Option Fsp := fun g =>
  if g = 169 then some shareDS else
  fnI g
theorem fnJ_ok : FsOk fnJ :=
  fs_cons shareDS_ok <|
  fnI_ok
/-! Within. -/
def rwithS : Fsp := fun _ args k => match args with
  | [.agg [.int .i64 x, .int .i64 y], .int .i64 r] => k (b2 (witV x y r) (witE x y r))
  | _ => none
theorem sq2_in7 {x y : Int} (hx : i7 x = true) (hy : i7 y = true) : 0 ≤ sq2 x y ∧ sq2 x y ≤ 170141183460469231694793815568465002498 := by
  have a := (i7_D hx).2.2
  have b := (i7_D hy).2.2
  unfold sq2; omega
theorem ab_sqD (x : Int) : ab x * ab x = x * x := by unfold ab; split; exact Int.neg_mul_neg x x; rfl
/-! Unit. -/
noncomputable def runitS : Fsp := fun _ args k => match args with
  | [.agg [.int .i64 x, .int .i64 y]] => k (s2 (uniV x y x) (uniV x y y) (uniE x y))
  | _ => none
theorem runit_text (N n0 : Nat) (α : Type) (x y : Int) (k : AOut → Option α) : evFn real tab ((twT fnJ (fun _ => none)).env real tab N (n0 + 1)) N Tryz.f114 α [sN x y] k =
 bif okB x then bif !okB y then k (s2 0 0 2) else bif i7 x && i7 y then bif ((dg (sq2 x y)).length : Int) == 0 then k (s2 0 0 10) else bif shD x (dg (sq2 x y)) then bif shD y (dg
 (sq2 x y)) then k (s2 (sg (ngB x) (shr (ab x) (vl (dg (sq2 x y))))) (sg (ngB y) (shr (ab y) (vl (dg (sq2 x y))))) 0) else none else none else none else k (s2 0 0 2) := by kernel_rfl
theorem shD_of {x s : Int} (hx : i7 x = true) (h0 : 0 < s) (h1 : s < 1393796574908163946345982392040522594123776) (h2 : ab x * ab x ≤ s) : shD x (dg s) = true := by
  unfold shD
  rw [hx, isD_dg ⟨by omega, by omega⟩, vl_dg _ (by omega), decide_eq_true h0, decide_eq_true h1, decide_eq_true h2]; rfl
theorem dg_len0 (s : Int) (h : 0 ≤ s) : (((dg s).length : Int) == 0) = (s == 0) := by
  by_cases c : s = 0
  · subst c; rfl
  · rw [beq_eq_false_iff_ne.2 c]
    exact beq_eq_false_iff_ne.2 fun d => c ((dg_nil h).1 (List.length_eq_zero_iff.1 (by omega)))
theorem runitS_ok : FspOk Tryz.prog 114 runitS := tower_S fnJ_ok sp_nil ⟨Tryz.func114, fun _ _ => by kernel_rfl⟩ (by intro α args k; unfold runitS; split <;> rfl) fun args out hs h => by
  unfold runitS at h
  split at h
  · rename_i x y
    refine ⟨1, 1, (runit_text 1 0 AOut x y some).trans (Eq.trans ?_ h)⟩
    unfold uniV uniE uniB
    cases hx : okB x
    · rfl
    · cases hy : okB y
      · rfl
      · have s := sq2_in7 (i7_ok hx) (i7_ok hy)
        rw [i7_ok hx, i7_ok hy, dg_len0 _ s.1]
        cases hz : sq2 x y == 0
        · have a := (i7_D (i7_ok hx)).2.2.1
          have b := (i7_D (i7_ok hy)).2.2.1
          have z := beq_eq_false_iff_ne.1 hz
          have e1 : ab x * ab x ≤ sq2 x y := by unfold sq2; omega
          have e2 : ab y * ab y ≤ sq2 x y := by unfold sq2; omega
          rw [shD_of (i7_ok hx) (by omega) (by omega) e1, shD_of (i7_ok hy) (by omega) (by omega) e2, vl_dg _ s.1]
          rfl
        · rfl
  · cases h
end Go.Proofs.YtgpljldfbhkdlaaGreat

namespace Go.Proofs.YtgpljldfbhkdlaaGreat
open Go.RowKit
def ftV (n : Int) (s : Bool) : Int := bif s && okB n then n else 0
def ftE (n : Int) (s : Bool) : Int := bif s && okB n then 0 else 4
def rfitS : Fsp := fun _ args k => match args with
  | [.int .i64 n, .bool s] => k (.ret (.tup [iN (ftV n s), iN (ftE n s)]))
  | _ => none
theorem rfit_text (N n0 : Nat) (α : Type) (n : Int) (s : Bool) (k : AOut → Option α) : evFn real tab ((twT fnJ (fun _ => none)).env real tab N n0) N Tryz.f141 α [iN n, .bool s] k =
 bif !s then k (.ret (.tup [iN 0, iN 4])) else bif decide (n < -70368744177664) then k (.ret (.tup [iN 0, iN 4])) else bif decide (n > 70368744177664) then k (.ret (.tup [iN 0, iN
 4])) else k (.ret (.tup [iN n, iN 0])) := by kernel_rfl
theorem rfitS_ok : FspOk Tryz.prog 141 rfitS := tower_S fnJ_ok sp_nil ⟨Tryz.func141, fun _ _ => by kernel_rfl⟩ (by intro α args k; unfold rfitS; split <;> rfl) fun args out hs h => by
  unfold rfitS at h
  split at h
  · rename_i n s
    refine ⟨1, 0, (rfit_text 1 0 AOut n s some).trans (Eq.trans ?_ h)⟩
    have e : okB n = (!decide (n < -70368744177664) && !decide (n > 70368744177664)) := by
      rw [Bool.eq_iff_iff, ok_iff]; simp
    unfold ftV ftE
    rw [e]
    cases s <;> cases decide (n < -70368744177664) <;> cases decide (n > 70368744177664) <;> rfl
  · cases h
noncomputable def fnK : FuncId → Option Fsp := fun g =>
  if g = 141 then some rfitS else
  fnJ g
theorem fnK_ok : FsOk fnK :=
  fs_cons rfitS_ok <|
  fnJ_ok
theorem ft_rnd {p d how : Int} (m : Bool) (h0 : 0 ≤ p) (hd : 0 < d) :
    ftV (rdN (dg p) (dg d) m how) (smB (vl (dg p) / vl (dg d))) = fxV m (rnd how m p d) ∧ ftE (rdN (dg p) (dg d) m how) (smB (vl (dg p) / vl (dg d))) = fxE (rnd how m p d) := by
  have n0 := rnd_nn (how := how) (neg := m) h0 hd
  unfold ftV ftE fxV fxE rdN rdQ
  rw [vl_dg _ h0, vl_dg _ (Int.le_of_lt hd)]
  cases hs : smB (p / d)
  · have hf : fxB (rnd how m p d) = false := by
      simp only [smB, decide_eq_false_iff_not] at hs
      unfold rnd fxB
      rw [decide_eq_false_iff_not]
      cases up1 how m (p % d) d <;> simp only [cond_true, cond_false] <;> omega
    rw [hf]; exact ⟨rfl, rfl⟩
  · have hr : p / d + (bif up1 how m (p % d) d then 1 else 0) = rnd how m p d := rfl
    rw [cond_true, hr]
    have hf : okB (sg m (rnd how m p d)) = fxB (rnd how m p d) := by
      rw [Bool.eq_iff_iff, ok_iff]
      unfold fxB sg
      rw [decide_eq_true_iff]
      cases m <;> simp only [cond_true, cond_false] <;> omega
    rw [hf]; exact ⟨rfl, rfl⟩
theorem ov_dg {p d : Int} (h0 : 0 ≤ p) (h1 : p < 1532495540865888858358347027150309183618739122183602176) (hd : 0 < d) (h2 : d < 46768052394588893382517914646921056628989841375232) : ovB (dg p) (dg d) = true := by
  unfold ovB
  rw [isD_dg ⟨h0, h1⟩, isD_dg ⟨Int.le_of_lt hd, by omega⟩, vl_dg _ (Int.le_of_lt hd), decide_eq_true hd, decide_eq_true h2]; rfl
end Go.Proofs.YtgpljldfbhkdlaaGreat

namespace Go.Proofs.YtgpljldfbhkdlaaGreat
open Go.RowKit
def ie (n e : Int) : AOut := .ret (.tup [iN n, iN e])
def qtK {α : Type} (p d : List Int) (m : Bool) (h : Int) (k : AOut → Option α) : Option α :=
  bif ovB p d && wayB h then k (ie (ftV (rdN p d m h) (smB (vl p / vl d))) (ftE (rdN p d m h) (smB (vl p / vl d)))) else none
theorem qtK_eq {α : Type} {p d h : Int} (m : Bool) (h0 : 0 ≤ p) (h1 : p < 1532495540865888858358347027150309183618739122183602176) (hd : 0 < d) (h2 : d < 46768052394588893382517914646921056628989841375232) (hw : wayB h = true) (k : AOut → Option α) :
    qtK (dg p) (dg d) m h k = k (ie (fxV m (rnd h m p d)) (fxE (rnd h m p d))) := by
  unfold qtK
  rw [ov_dg h0 h1 hd h2, hw, (ft_rnd m h0 hd).1, (ft_rnd m h0 hd).2]; rfl
def rmulS : Fsp := fun _ args k => match args with
  | [.int .i64 a, .int .i64 b, .int .i64 h] => k (ie (mulV a b h) (mulE a b h))
  | _ => none
theorem rmul_text (N n0 : Nat) (α : Type) (x y h : Int) (k : AOut → Option α) : evFn real tab ((twT fnK (fun _ => none)).env real tab N (n0 + 1)) N Tryz.f115 α [iN x, iN y, iN h] k =
 bif okB x then bif !okB y then k (ie 0 2) else bif !wayB h then k (ie 0 2) else bif i7 x then bif decide (0 ≤ ab x) && decide (ab x ≤ 9223372036854775807) then bif i7 y then bif
 decide (0 ≤ ab y) && decide (ab y ≤ 9223372036854775807) then bif isD (dg (ab x)) && isD (dg (ab y)) then qtK (dg (vl (dg (ab x)) * vl (dg (ab y)))) (dg 65536) (!decide (x < 0) ==
 decide (y < 0)) h k else none else none else none else none else none else k (ie 0 2) := by kernel_rfl
theorem abmul_in {x y : Int} (hx : okB x = true) (hy : okB y = true) : 0 ≤ ab x * ab y ∧ ab x * ab y ≤ 4951760157141521099596496896 :=
  ⟨Int.mul_nonneg (ab_nn x) (ab_nn y), Int.mul_le_mul (ok_ab hx) (ok_ab hy) (ab_nn y) (by omega)⟩
theorem rmulS_ok : FspOk Tryz.prog 115 rmulS := tower_S fnK_ok sp_nil ⟨Tryz.func115, fun _ _ => by kernel_rfl⟩ (by intro α args k; unfold rmulS; split <;> rfl) fun args out hs h => by
  unfold rmulS at h
  split at h
  · rename_i x y w
    refine ⟨1, 1, (rmul_text 1 0 AOut x y w some).trans (Eq.trans ?_ h)⟩
    unfold mulV mulE mulB prN
    cases hx : okB x
    · rfl
    · cases hy : okB y
      · rfl
      · cases hw : wayB w
        · rfl
        · have a := i7_ab (i7_ok hx)
          have b := i7_ab (i7_ok hy)
          have c := abmul_in hx hy
          obtain ⟨x1, x2, _⟩ := i7_D (i7_ok hx)
          obtain ⟨y1, y2, _⟩ := i7_D (i7_ok hy)
          rw [i7_ok hx, i7_ok hy, decide_eq_true a.1, decide_eq_true a.2, decide_eq_true b.1, decide_eq_true b.2, x1, x2, y1, y2, qtK_eq _ c.1 (by omega) (by omega) (by omega) hw]
          have e : (!decide (x < 0) == decide (y < 0)) = xorB (ngB x) (ngB y) := by unfold xorB ngB; cases decide (x < 0) <;> cases decide (y < 0) <;> rfl
          rw [e]; rfl
  · cases h
/-! Products of spots. -/
theorem sg_mulD (a b : Int) : sg (xorB (ngB a) (ngB b)) (ab a * ab b) = a * b := by
  unfold sg xorB ngB ab
  by_cases ha : a < 0 <;> by_cases hb : b < 0 <;> simp [ha, hb, Int.neg_mul, Int.mul_neg]
theorem sum_sg {m n : Bool} {p q : Int} (hp : 0 ≤ p) (hq : 0 ≤ q) : sg (sumB m n p q) (sumV m n p q) = sg m p + sg n q ∧ 0 ≤ sumV m n p q ∧ sumV m n p q ≤ p + q := by
  unfold sumB sumV sg
  by_cases c : q ≤ p
  · rw [decide_eq_true c]; cases m <;> cases n <;> simp <;> omega
  · rw [decide_eq_false c]; cases m <;> cases n <;> simp <;> omega
theorem fx_sg {b : Bool} {v s how : Int} (h0 : 0 ≤ v) (h : sg b v = s) : fxV b (rnd how b v 65536) = fxV (ngB s) (rnd how (ngB s) (ab s) 65536) ∧ fxE (rnd how b v 65536) = fxE (rnd how (ngB s) (ab s) 65536) := by
  have e : ab s = v := by subst h; unfold ab sg; cases b <;> simp <;> omega
  rw [e]
  by_cases c : v = 0
  · subst c
    have r : ∀ m, rnd how m 0 65536 = 0 := fun m => by unfold rnd up1; rfl
    rw [r, r]
    refine ⟨?_, rfl⟩
    unfold fxV sg; cases b <;> cases ngB s <;> rfl
  · have d : b = ngB s := by subst h; unfold ngB sg; cases b <;> simp <;> omega
    rw [← d]; exact ⟨rfl, rfl⟩
def rdotS : Fsp := fun _ args k => match args with
  | [.agg [.int .i64 x, .int .i64 y], .agg [.int .i64 u, .int .i64 v], .int .i64 h] => k (ie (dotV x y u v h) (dotE x y u v h))
  | _ => none
end Go.Proofs.YtgpljldfbhkdlaaGreat

namespace Go.Proofs.YtgpljldfbhkdlaaGreat
open Go.RowKit
abbrev mxN (n : Int) : Int := if n < IntKind.i64.wrap (0 - n) then IntKind.i64.wrap (0 - n) else n
theorem mxN_eq {n : Int} (h : rateB n = true) : mxN n = ab n := by
  rw [rate_iff] at h
  unfold mxN ab
  rw [w64 _ (by omega)]
  split <;> split <;> omega
def rscaleS : Fsp := fun _ args k => match args with
  | [.int .i64 a, .int .i64 n, .int .i64 d, .int .i64 h] => k (ie (scV a n d h) (scE a n d h))
  | _ => none
theorem rscale_text (N n0 : Nat) (α : Type) (x n d h : Int) (k : AOut → Option α) : evFn real tab ((twT fnK (fun _ => none)).env real tab N (n0 + 2)) N Tryz.f85 α [iN x, iN n, iN d, iN h] k =
 bif !okB x then k (ie 0 2) else bif !wayB h then k (ie 0 2) else bif decide (-2147483648 ≤ n) then bif !decide (n ≤ 2147483648) then k (ie 0 2) else bif decide (-2147483648 ≤ d)
 then bif !decide (d ≤ 2147483648) then k (ie 0 2) else bif d == 0 then k (ie 0 10) else bif i7 x then bif decide (0 ≤ ab x) && decide (ab x ≤ 9223372036854775807) then bif decide (0
 ≤ mxN n) && decide (mxN n ≤ 9223372036854775807) then bif isD (dg (ab x)) && isD (dg (mxN n)) then bif decide (0 ≤ mxN d) && decide (mxN d ≤ 9223372036854775807) then qtK (dg (vl
 (dg (ab x)) * vl (dg (mxN n)))) (dg (mxN d)) (!(!decide (x < 0) == decide (n < 0)) == decide (d < 0)) h k else none else none else none else none else none else k (ie 0 2) else k
 (ie 0 2) := by kernel_rfl
theorem rscaleS_ok : FspOk Tryz.prog 85 rscaleS := tower_S fnK_ok sp_nil ⟨Tryz.func85, fun _ _ => by kernel_rfl⟩ (by intro α args k; unfold rscaleS; split <;> rfl) fun args out hs h => by
  unfold rscaleS at h
  split at h
  · rename_i x n d w
    refine ⟨1, 2, (rscale_text 1 0 AOut x n d w some).trans (Eq.trans ?_ h)⟩
    have rn : rateB n = (decide (-2147483648 ≤ n) && decide (n ≤ 2147483648)) := rfl
    have rd : rateB d = (decide (-2147483648 ≤ d) && decide (d ≤ 2147483648)) := rfl
    unfold scV scE scB scN
    cases hx : okB x
    · rfl
    · cases hw : wayB w
      · rfl
      · cases hn : rateB n
        · rw [rn] at hn
          cases p : decide (-2147483648 ≤ n)
          · rfl
          · rw [p, Bool.true_and] at hn; rw [hn]; rfl
        · have hn' := hn
          rw [rn, Bool.and_eq_true] at hn'
          rw [hn'.1, hn'.2]
          cases hd : rateB d
          · rw [rd] at hd
            cases p : decide (-2147483648 ≤ d)
            · rfl
            · rw [p, Bool.true_and] at hd; rw [hd]; rfl
          · have hd' := hd
            rw [rd, Bool.and_eq_true] at hd'
            rw [hd'.1, hd'.2]
            cases hz : d == 0
            · have z := beq_eq_false_iff_ne.1 hz
              have a := i7_ab (i7_ok hx)
              obtain ⟨x1, x2, _⟩ := i7_D (i7_ok hx)
              have n1 := rate_iff.1 hn
              have d1 := rate_iff.1 hd
              have n2 : 0 ≤ ab n ∧ ab n ≤ 2147483648 := by unfold ab; split <;> omega
              have d2 : 0 < ab d ∧ ab d ≤ 2147483648 := by unfold ab; split <;> omega
              have m : 0 ≤ ab x * ab n ∧ ab x * ab n ≤ 70368744177664 * 2147483648 := ⟨Int.mul_nonneg a.1 n2.1, Int.mul_le_mul (ok_ab hx) n2.2 n2.1 (by omega)⟩
              have e : (!(!decide (x < 0) == decide (n < 0)) == decide (d < 0)) = scG x n d := by unfold scG xorB ngB; cases decide (x < 0) <;> cases decide (n < 0) <;> cases decide (d < 0) <;> rfl
              rw [mxN_eq hn, mxN_eq hd, i7_ok hx, decide_eq_true a.1, decide_eq_true a.2, decide_eq_true n2.1, decide_eq_true (show ab n ≤ 9223372036854775807 by omega), decide_eq_true (Int.le_of_lt d2.1), decide_eq_true (show ab d ≤ 9223372036854775807 by omega), x1, isD_dg (n := ab n) ⟨n2.1, by omega⟩, x2, vl_dg _ n2.1, qtK_eq _ m.1 (by omega) d2.1 (by omega) hw, e]
              rfl
            · rfl
  · cases h
noncomputable def fnL : FuncId → Option Fsp := fun g =>
  if g = 115 then some rmulS else
  if g = 85 then some rscaleS else
  if g = 114 then some runitS else
  fnK g
theorem fnL_ok : FsOk fnL :=
  fs_cons rmulS_ok <|
  fs_cons rscaleS_ok <|
  fs_cons runitS_ok <|
  fnK_ok
end Go.Proofs.YtgpljldfbhkdlaaGreat

namespace Go.Proofs.YtgpljldfbhkdlaaGreat
open Go.RowKit
def fixPanic (e : Int) : List PanicEntry := [{ v := .iface 154 (.agg #[.int .i64 e]), recovered := false }]
theorem need_yes (e : Int) (w : World) : Calls Tryz.prog 145 #[.bool true, .int .i64 e] w fun r w' => r = .returned (.tuple #[]) ∧ w = w' := by
  go_enter Tryz.func145, Tryz.ntmps145
  go_wp2
  go_end0
  exact ⟨rfl, rfl⟩
theorem need_no (e : Int) (w : World) : Calls Tryz.prog 145 #[.bool false, .int .i64 e] w fun r w' => r = .panicked (fixPanic e) ∧ w = w' := by
  go_enter Tryz.func145, Tryz.ntmps145
  go_wp2
  exact ⟨rfl, rfl, rfl⟩
end Go.Proofs.YtgpljldfbhkdlaaGreat

namespace Go.Proofs.YtgpljldfbhkdlaaGreat
open Go.RowKit
namespace MulN
theorem maskN (a : Nat) (ha : a < 18446744073709551616) : bits .and .u64 (a : Int) 4294967295 = ((a % 4294967296 : Nat) : Int) := by
  have h := bits_and_u64_nat a 4294967295 ha (by omega)
  have e : a &&& 4294967295 = a % 4294967296 := Nat.and_two_pow_sub_one_eq_mod a 32
  rw [e] at h
  exact h
theorem divN (a : Nat) : (a : Int) / 4294967296 = ((a / 4294967296 : Nat) : Int) := by omega
theorem mulN (a b : Nat) : (a : Int) * (b : Int) = ((a * b : Nat) : Int) := (Int.natCast_mul a b).symm
theorem addN (a b : Nat) : (a : Int) + (b : Int) = ((a + b : Nat) : Int) := (Int.natCast_add a b).symm
theorem wrapN (a : Nat) (ha : a < 18446744073709551616) : IntKind.u64.wrap (a : Int) = (a : Int) := by rw [IntKind.wrap_u64]; omega
theorem wrapM (a : Nat) : IntKind.u64.wrap (a : Int) = ((a % 18446744073709551616 : Nat) : Int) := by rw [IntKind.wrap_u64]; omega
end MulN
set_option maxHeartbeats 1000000 in
theorem mul64_nat (x y : Nat) (hx : x < 18446744073709551616) (hy : y < 18446744073709551616) (w : World) :
    Calls Tryz.prog 162 #[.int .u64 x, .int .u64 y] w fun e w' => e = .returned (.tuple #[.int .u64 ((x * y / 18446744073709551616 : Nat) : Int), .int .u64 ((x * y % 18446744073709551616 : Nat) : Int)]) ∧ w = w' := by
  obtain ⟨bd, bt, bw, hhi⟩ := Lib.mul64_hi x y hx hy
  have ba := Lib.half_mul_le (a := x / 4294967296) (b := y / 4294967296) (by omega) (by omega)
  have bb := Lib.half_mul_le (a := x / 4294967296) (b := y % 4294967296) (by omega) (by omega)
  have bc := Lib.half_mul_le (a := x % 4294967296) (b := y / 4294967296) (by omega) (by omega)
  have ba' : x / 4294967296 * (y / 4294967296) < 18446744073709551616 := by omega
  have bb' : x / 4294967296 * (y % 4294967296) < 18446744073709551616 := by omega
  have bc' : x % 4294967296 * (y / 4294967296) < 18446744073709551616 := by omega
  have bh1 : x / 4294967296 * (y / 4294967296) + (x / 4294967296 * (y % 4294967296) + x % 4294967296 * (y % 4294967296) / 4294967296) / 4294967296 < 18446744073709551616 := by omega
  have bh : x / 4294967296 * (y / 4294967296) + (x / 4294967296 * (y % 4294967296) + x % 4294967296 * (y % 4294967296) / 4294967296) / 4294967296 + ((x / 4294967296 * (y % 4294967296) + x % 4294967296 * (y % 4294967296) / 4294967296) % 4294967296 + x % 4294967296 * (y / 4294967296)) / 4294967296 < 18446744073709551616 := by omega
  go_enter Tryz.func162, Tryz.ntmps162
  go_wp2
  simp only [MulN.maskN x hx, MulN.maskN y hy, MulN.divN, MulN.mulN, MulN.addN, MulN.wrapN _ bd, MulN.wrapN _ bb', MulN.wrapN _ bt, MulN.maskN _ bt, MulN.wrapN _ bc', MulN.wrapN _ bw, MulN.wrapN _ ba', MulN.wrapN _ bh1, MulN.wrapN _ bh, MulN.wrapM (x * y)]
  rw [hhi]
  go_ret2
  exact ⟨rfl, rfl⟩
def Word (x : Int) : Prop := 0 ≤ x ∧ x < 18446744073709551616
theorem mul64 (x y : Int) (hx : Word x) (hy : Word y) (w : World) :
    Calls Tryz.prog 162 #[.int .u64 x, .int .u64 y] w fun e w' => e = .returned (.tuple #[.int .u64 (x * y / 18446744073709551616), .int .u64 (x * y % 18446744073709551616)]) ∧ w = w' := by
  obtain ⟨h1, h2⟩ := hx; obtain ⟨h3, h4⟩ := hy
  obtain ⟨x, rfl⟩ := Int.eq_ofNat_of_zero_le h1
  obtain ⟨y, rfl⟩ := Int.eq_ofNat_of_zero_le h3
  exact mul64_nat x y (by omega) (by omega) w
theorem add64 (x y c : Int) (hx : 0 ≤ x) (hy : 0 ≤ y) (hc0 : 0 ≤ c) (hc : c ≤ 1) (w : World) : (callFunc 163 #[.int .u64 x, .int .u64 y, .int .u64 c]).run Tryz.prog w =
    .ok (.value (.tuple #[.int .u64 ((x + y + c) % 18446744073709551616), .int .u64 ((x + y + c) / 18446744073709551616)])) w := by
  rw [run_callFunc_extern Tryz.func163 (by kernel_rfl) (by kernel_rfl) (by kernel_rfl) (e := add64Entry) (by kernel_rfl), run_add64 x y c hx hy hc0 hc]
  rfl
theorem add64_0 (x y : Int) (hx : 0 ≤ x) (hy : 0 ≤ y) (w : World) : (callFunc 163 #[.int .u64 x, .int .u64 y, .int .u64 0]).run Tryz.prog w =
    .ok (.value (.tuple #[.int .u64 ((x + y) % 18446744073709551616), .int .u64 ((x + y) / 18446744073709551616)])) w := by
  simpa using add64 x y 0 hx hy (Int.le_refl 0) (by decide) w
theorem len8_idx (i : Int) (h0 : 0 ≤ i) (h1 : i ≤ 255) (h : i.toNat < Lib.len8tab.size) : ((Lib.len8tab[i.toNat]'h).toNat : Int) = Lib.bitLen i.toNat := by
  have e := Lib.len8_eq ⟨i.toNat, by omega⟩
  simp only [Int.toNat_of_nonneg h0, Lib.len8, ByteArray.getElem?_lt' _ _ h, Option.getD_some] at e
  exact e
theorem len_fin (x i k : Int) (h0 : 0 ≤ i) (h1 : i ≤ 255) (h : i.toNat < Lib.len8tab.size) (hk0 : 0 ≤ k) (hk1 : k ≤ 56) (hk : (Lib.bitLen x.toNat : Int) = k + Lib.bitLen i.toNat) :
    wrap64 (k + wrap64 ((Lib.len8tab[i.toNat]'h).toNat : Int)) = Lib.bitLen x.toNat := by
  have l := Lib.bitLen_le8' i h0 h1
  rw [len8_idx i h0 h1 h, hk]
  unfold wrap64
  omega
theorem len_fin0 (x : Int) (h0 : 0 ≤ x) (h1 : x ≤ 255) (h : x.toNat < Lib.len8tab.size) :
    wrap64 (wrap64 ((Lib.len8tab[x.toNat]'h).toNat : Int)) = Lib.bitLen x.toNat := by
  have l := Lib.bitLen_le8' x h0 h1
  rw [len8_idx x h0 h1 h]
  unfold wrap64
  omega
set_option maxHeartbeats 4000000 in
set_option maxRecDepth 100000 in
theorem len64 (x : Int) (w : World) (h0 : 0 ≤ x) (h1 : x ≤ 18446744073709551615) :
    Calls Tryz.prog 207 #[.int .u64 x] w fun e w' => e = .returned (.int .i64 (Lib.bitLen x.toNat)) ∧ w = w' := by
  have hsz := Lib.len8tab_size
  go_enter Tryz.func207, Tryz.ntmps207
  go_wp2
  all_goals (go_ret; refine ⟨congrArg Ending.returned (congrArg (Value.int IntKind.i64) ?_), rfl⟩)
  all_goals first
    | exact len_fin x (x / 4294967296 / 65536 / 256) 56 (by omega) (by omega) _ (by omega) (by omega) (by have s := Lib.bitLen_shift56 x.toNat (by omega) (by omega); have e : (x / 4294967296 / 65536 / 256).toNat = x.toNat / 72057594037927936 := (by omega); rw [e]; omega)
    | exact len_fin x (x / 4294967296 / 65536) 48 (by omega) (by omega) _ (by omega) (by omega) (by have s := Lib.bitLen_shift48 x.toNat (by omega) (by omega); have e : (x / 4294967296 / 65536).toNat = x.toNat / 281474976710656 := (by omega); rw [e]; omega)
    | exact len_fin x (x / 4294967296 / 256) 40 (by omega) (by omega) _ (by omega) (by omega) (by have s := Lib.bitLen_shift40 x.toNat (by omega) (by omega); have e : (x / 4294967296 / 256).toNat = x.toNat / 1099511627776 := (by omega); rw [e]; omega)
    | exact len_fin x (x / 4294967296) 32 (by omega) (by omega) _ (by omega) (by omega) (by have s := Lib.bitLen_shift32 x.toNat (by omega) (by omega); have e : (x / 4294967296).toNat = x.toNat / 4294967296 := (by omega); rw [e]; omega)
    | exact len_fin x (x / 65536 / 256) 24 (by omega) (by omega) _ (by omega) (by omega) (by have s := Lib.bitLen_shift24 x.toNat (by omega) (by omega); have e : (x / 65536 / 256).toNat = x.toNat / 16777216 := (by omega); rw [e]; omega)
    | exact len_fin x (x / 65536) 16 (by omega) (by omega) _ (by omega) (by omega) (by have s := Lib.bitLen_shift16 x.toNat (by omega) (by omega); have e : (x / 65536).toNat = x.toNat / 65536 := (by omega); rw [e]; omega)
    | exact len_fin x (x / 256) 8 (by omega) (by omega) _ (by omega) (by omega) (by have s := Lib.bitLen_shift8 x.toNat (by omega) (by omega); have e : (x / 256).toNat = x.toNat / 256 := (by omega); rw [e]; omega)
    | exact len_fin0 x (by omega) (by omega) _
theorem bitLen_spec : ∀ (f x : Nat), 0 < x → x < 2 ^ f → 0 < Lib.bitLenAux f x ∧ Lib.bitLenAux f x ≤ f ∧ 2 ^ (Lib.bitLenAux f x - 1) ≤ x ∧ x < 2 ^ Lib.bitLenAux f x
  | 0, x, h, hx => by simp at hx; omega
  | f + 1, x, h, hx => by
    simp only [Lib.bitLenAux]
    rw [if_neg (by omega)]
    by_cases h2 : x / 2 = 0
    · have hx1 : x = 1 := by omega
      subst hx1
      cases f with
      | zero => simp [Lib.bitLenAux]
      | succ f => simp [Lib.bitLenAux]
    · obtain ⟨a, b, c, d⟩ := bitLen_spec f (x / 2) (by omega) (by rw [Nat.pow_succ] at hx; omega)
      generalize Lib.bitLenAux f (x / 2) = k at *
      obtain ⟨j, rfl⟩ : ∃ j, k = j + 1 := ⟨k - 1, by omega⟩
      have e1 : 1 + (j + 1) = (j + 1) + 1 := by omega
      rw [e1, Nat.add_sub_cancel, Nat.pow_succ 2 (j + 1), Nat.pow_succ 2 j] at *
      exact ⟨by omega, by omega, by omega, by omega⟩
theorem lead_fin (n k : Nat) (b : k ≤ 64) (a : 0 < k) (c : 2 ^ (k - 1) ≤ n) (d : n < 2 ^ k) : 64 - k ≤ 63 ∧ 2 ^ 63 ≤ n * 2 ^ (64 - k) ∧ n * 2 ^ (64 - k) < 2 ^ 64 := by
  have p1 : 2 ^ (k - 1) * 2 ^ (64 - k) = 2 ^ 63 := by
    rw [← Nat.pow_add, show k - 1 + (64 - k) = 63 by omega]
  have p2 : 2 ^ k * 2 ^ (64 - k) = 2 ^ 64 := by
    rw [← Nat.pow_add, show k + (64 - k) = 64 by omega]
  have q1 := Nat.mul_le_mul_right (2 ^ (64 - k)) c
  have q2 := Nat.mul_lt_mul_of_pos_right d (Nat.two_pow_pos (64 - k))
  rw [p1] at q1
  rw [p2] at q2
  exact ⟨by omega, q1, q2⟩
theorem lead64 (n : Nat) (w : World) (h0 : 0 < n) (h1 : n < 18446744073709551616) :
    Calls Tryz.prog 206 #[.int .u64 n] w fun e w' => (∃ s : Nat, e = .returned (.int .i64 s) ∧ s ≤ 63 ∧ 2 ^ 63 ≤ n * 2 ^ s ∧ n * 2 ^ s < 2 ^ 64) ∧ w = w' := by
  obtain ⟨a, b, c, d⟩ := bitLen_spec 64 n h0 (by have : (2:Nat) ^ 64 = 18446744073709551616 := by decide
                                                 omega)
  have hf := lead_fin n _ b a c d
  have hb : Lib.bitLen n ≤ 64 := b
  have hs : (64 - Lib.bitLen n : Int) = ((64 - Lib.bitLen n : Nat) : Int) := by omega
  have hf' : 64 - Lib.bitLen n ≤ 63 ∧ 2 ^ 63 ≤ n * 2 ^ (64 - Lib.bitLen n) ∧ n * 2 ^ (64 - Lib.bitLen n) < 2 ^ 64 := hf
  clear a b c d hf
  go_enter Tryz.func206, Tryz.ntmps206
  go_wp2_with (go_at_call 207; refine (len64 _ _ (by omega) (by omega)).mono ?_; rintro e w' ⟨rfl, rfl⟩; rw [Int.toNat_natCast])
  go_ret
  exact ⟨⟨_, rfl, hf'⟩, rfl⟩
end Go.Proofs.YtgpljldfbhkdlaaGreat

namespace Go.Proofs.YtgpljldfbhkdlaaGreat.NumA
theorem digit_low (u v q r y1 y0 n1 : Nat) (hv : v = y1 * 4294967296 + y0) (hi : q * y1 + r = u) (hy0 : y0 < 4294967296)
    (ht : (q < 4294967296 ∧ q * y0 ≤ 4294967296 * r + n1) ∨ (4294967296 ≤ r ∧ q ≤ 4294967296)) : q * v ≤ u * 4294967296 + n1 := by
  have e : q * v = (q * y1) * 4294967296 + q * y0 := by rw [hv, Nat.mul_add, Nat.mul_assoc]
  have e2 : u * 4294967296 = (q * y1) * 4294967296 + r * 4294967296 := by rw [← hi, Nat.add_mul]
  rw [e, e2]
  have h : q * y0 ≤ r * 4294967296 + n1 := by
    rcases ht with ⟨_, h⟩ | ⟨h1, h2⟩
    · rw [Nat.mul_comm r]; exact h
    · have := Nat.mul_le_mul h2 (Nat.le_of_lt hy0)
      have := Nat.mul_le_mul_right 4294967296 h1
      omega
  omega
theorem digit_high (u v q n1 : Nat) (h : u * 4294967296 + n1 < q * v) : (u * 4294967296 + n1) / v < q := by
  have hv : 0 < v := by
    rcases Nat.eq_zero_or_pos v with h0 | h0
    · subst h0; omega
    · exact h0
  exact (Nat.div_lt_iff_lt_mul hv).2 h
theorem digit_more (u v q r y1 y0 n1 : Nat) (hv : v = y1 * 4294967296 + y0) (hi : q * y1 + r = u) (hn : n1 < 4294967296) (hu : u < v)
    (ht : 4294967296 ≤ q ∨ 4294967296 * r + n1 < q * y0) : (u * 4294967296 + n1) / v < q := by
  apply digit_high
  rcases ht with h | h
  · have h1 := Nat.mul_le_mul_right v h
    have h2 : (u + 1) * 4294967296 ≤ v * 4294967296 := Nat.mul_le_mul_right _ hu
    rw [Nat.mul_comm] at h1
    omega
  · have e : q * v = (q * y1) * 4294967296 + q * y0 := by rw [hv, Nat.mul_add, Nat.mul_assoc]
    have e2 : u * 4294967296 = (q * y1) * 4294967296 + r * 4294967296 := by rw [← hi, Nat.add_mul]
    omega
theorem digit_is (u v q n1 : Nat) (hl : q * v ≤ u * 4294967296 + n1) (hh : (u * 4294967296 + n1) / v ≤ q) (hv : 0 < v) : q = (u * 4294967296 + n1) / v :=
  Nat.le_antisymm ((Nat.le_div_iff_mul_le hv).2 hl) hh
theorem first_high (u v y1 y0 n1 : Nat) (hv : v = y1 * 4294967296 + y0) (hy0 : y0 < 4294967296) (hy1 : 2147483648 ≤ y1) (hn : n1 < 4294967296) (hu : u < v) :
    (u * 4294967296 + n1) / v ≤ u / y1 ∧ u / y1 ≤ 4294967297 := by
  have hy : 0 < y1 := by omega
  constructor
  · have h := Nat.lt_mul_div_succ u hy
    apply Nat.le_of_lt_succ
    apply digit_high
    rw [hv]
    have e : (u / y1 + 1) * (y1 * 4294967296 + y0) = y1 * (u / y1 + 1) * 4294967296 + (u / y1 + 1) * y0 := by
      rw [Nat.mul_add, ← Nat.mul_assoc, Nat.mul_comm (u / y1 + 1) y1]
    show _ < (u / y1 + 1) * _
    rw [e]
    have : (u + 1) * 4294967296 ≤ y1 * (u / y1 + 1) * 4294967296 := Nat.mul_le_mul_right _ h
    omega
  · apply Nat.le_of_lt_succ
    rw [Nat.div_lt_iff_lt_mul hy]
    omega
theorem rest_is (u v n1 : Nat) : u * 4294967296 + n1 - (u * 4294967296 + n1) / v * v = (u * 4294967296 + n1) % v := by
  have := Nat.div_add_mod (u * 4294967296 + n1) v
  rw [Nat.mul_comm] at this
  omega
theorem digit_lt (u v n1 : Nat) (hn : n1 < 4294967296) (hu : u < v) : (u * 4294967296 + n1) / v < 4294967296 := by
  rw [Nat.div_lt_iff_lt_mul (by omega)]
  have := Nat.mul_le_mul_right 4294967296 hu
  rw [Nat.mul_comm 4294967296]
  omega
theorem two_digits_of (B u v n1 n0 : Nat) (hv : 0 < v) :
    (u * (B * B) + (n1 * B + n0)) / v = (u * B + n1) / v * B + ((u * B + n1) % v * B + n0) / v ∧
    (u * (B * B) + (n1 * B + n0)) % v = ((u * B + n1) % v * B + n0) % v := by
  have h := Nat.div_add_mod (u * B + n1) v
  generalize (u * B + n1) / v = q at *
  generalize (u * B + n1) % v = r at *
  have e : u * (B * B) + (n1 * B + n0) = v * (q * B) + (r * B + n0) := by
    have : (v * q + r) * B = (u * B + n1) * B := by rw [h]
    rw [Nat.add_mul, Nat.add_mul, Nat.mul_assoc, Nat.mul_assoc] at this
    omega
  rw [e]
  exact ⟨by rw [Nat.mul_add_div hv], by rw [Nat.mul_add_mod]⟩
theorem two_digits (u v n1 n0 : Nat) (hv : 0 < v) :
    (u * 18446744073709551616 + (n1 * 4294967296 + n0)) / v = (u * 4294967296 + n1) / v * 4294967296 + ((u * 4294967296 + n1) % v * 4294967296 + n0) / v ∧
    (u * 18446744073709551616 + (n1 * 4294967296 + n0)) % v = ((u * 4294967296 + n1) % v * 4294967296 + n0) % v :=
  two_digits_of 4294967296 u v n1 n0 hv
theorem shifted (n y s : Nat) : n * 2 ^ s / (y * 2 ^ s) = n / y ∧ n * 2 ^ s % (y * 2 ^ s) / 2 ^ s = n % y := by
  have h : 0 < 2 ^ s := Nat.two_pow_pos s
  exact ⟨Nat.mul_div_mul_right _ _ h, by rw [Nat.mul_mod_mul_right, Nat.mul_div_cancel _ h]⟩
def Dig (u v y1 n1 Q R : Nat) : Prop := Q * y1 + R = u ∧ (u * 4294967296 + n1) / v ≤ Q ∧ Q ≤ 4294967297 ∧ R < 4294967296
def DigAt (u v n1 Q : Nat) : Prop := Q = (u * 4294967296 + n1) / v
structure Norm (v y1 y0 : Nat) : Prop where
  eq : v = y1 * 4294967296 + y0
  low : y0 < 4294967296
  high : 2147483648 ≤ y1
  top : y1 < 4294967296
theorem Dig.first {u v y1 y0 n1 : Nat} (h : Norm v y1 y0) (hn : n1 < 4294967296) (hu : u < v) : Dig u v y1 n1 (u / y1) (u - u / y1 * y1) := by
  obtain ⟨a, b⟩ := first_high u v y1 y0 n1 h.eq h.low h.high hn hu
  have e := Nat.div_add_mod' u y1
  have m := Nat.mod_lt u (show 0 < y1 by have := h.high; omega)
  have t := h.top
  exact ⟨by omega, a, b, by omega⟩
theorem Dig.done {u v y1 y0 n1 Q R : Nat} (h : Norm v y1 y0) (d : Dig u v y1 n1 Q R) (h1 : Q < 4294967296) (h2 : Q * y0 ≤ 4294967296 * R + n1) : DigAt u v n1 Q := by
  have hh := h.high
  exact digit_is u v Q n1 (digit_low u v Q R y1 y0 n1 h.eq d.1 h.low (.inl ⟨h1, h2⟩)) d.2.1 (by rw [h.eq]; omega)
theorem Dig.less {u v y1 y0 n1 Q R : Nat} (h : Norm v y1 y0) (d : Dig u v y1 n1 Q R) (hn : n1 < 4294967296) (hu : u < v) (ht : 4294967296 ≤ Q ∨ 4294967296 * R + n1 < Q * y0) :
    0 < Q ∧ (R + y1 < 4294967296 → Dig u v y1 n1 (Q - 1) (R + y1)) ∧ (4294967296 ≤ R + y1 → DigAt u v n1 (Q - 1)) := by
  have hm := digit_more u v Q R y1 y0 n1 h.eq d.1 hn hu ht
  obtain ⟨d1, d2, d3, d4⟩ := d
  have hh := h.high
  have hQ : 0 < Q := Nat.lt_of_le_of_lt (Nat.zero_le _) hm
  generalize hg : (u * 4294967296 + n1) / v = g at *
  obtain ⟨q, rfl⟩ : ∃ q, Q = q + 1 := ⟨Q - 1, by omega⟩
  rw [Nat.add_sub_cancel]
  rw [Nat.add_mul, Nat.one_mul] at d1
  refine ⟨by omega, fun hr => ⟨by omega, by rw [hg]; omega, by omega, hr⟩, fun hr => ?_⟩
  exact digit_is u v q n1 (digit_low u v q (R + y1) y1 y0 n1 h.eq (by omega) h.low (.inr ⟨hr, by omega⟩)) (by rw [hg]; omega) (by rw [h.eq]; omega)
theorem DigAt.rest {u v n1 Q : Nat} (d : DigAt u v n1 Q) (hu : u < v) (hn : n1 < 4294967296) (hv : v < 18446744073709551616) :
    Q < 4294967296 ∧ ((((u : Int) * 4294967296 % 18446744073709551616 + n1) % 18446744073709551616 - (Q : Int) * v % 18446744073709551616) % 18446744073709551616 = (((u * 4294967296 + n1) % v : Nat) : Int)) ∧ (u * 4294967296 + n1) % v < v := by
  have hl := digit_lt u v n1 hn hu
  have hr := rest_is u v n1
  have hm := Nat.mod_lt (u * 4294967296 + n1) (show 0 < v by omega)
  have hd := Nat.div_mul_le_self (u * 4294967296 + n1) v
  unfold DigAt at d
  rw [← d] at hr hl hd
  refine ⟨hl, ?_, hm⟩
  generalize (u * 4294967296 + n1) % v = r at *
  have e : (Q : Int) * v = ((Q * v : Nat) : Int) := (Int.natCast_mul Q v).symm
  rw [e]
  generalize Q * v = k at *
  omega
end Go.Proofs.YtgpljldfbhkdlaaGreat.NumA

namespace Go.Proofs.YtgpljldfbhkdlaaGreat
open Go.RowKit NumA
theorem div64_small (lo y : Nat) (w : World) (h0 : 0 < y) (hy : y < 18446744073709551616) (hlo : lo < 18446744073709551616) :
    Calls Tryz.prog 200 #[.int .u64 0, .int .u64 lo, .int .u64 y] w fun e w' => e = .returned (.tuple #[.int .u64 ((lo / y : Nat) : Int), .int .u64 ((lo % y : Nat) : Int)]) ∧ ∃ n, w' = w.drewN n := by
  have h1 : ((y : Int) == 0) = false := by simp; omega
  have h2 : ¬ (y : Int) ≤ 0 := by omega
  have h3 : ¬ (y : Int) = 0 := by omega
  have hl := Nat.div_le_self lo y
  have e : ∀ k : Int, k = ((lo / y : Nat) : Int) → IntKind.u64.wrap k = ((lo / y : Nat) : Int) := by
    intro k hk; rw [hk, IntKind.wrap_u64]; generalize lo / y = g at *; omega
  have e' := e (lo / y) (Int.natCast_ediv lo y).symm
  clear e
  go_enter Tryz.func200, Tryz.ntmps200
  go_wp2
  go_quiet (fail)
  go_wp2
  go_ret2
  exact ⟨rfl, _, rfl⟩
theorem shl_u (y s : Nat) (h2 : y * 2 ^ s < 2 ^ 64) : IntKind.u64.wrap ((y : Int) * 2 ^ s) = ((y * 2 ^ s : Nat) : Int) := by
  have e : (y : Int) * 2 ^ s = ((y * 2 ^ s : Nat) : Int) := by rw [Int.natCast_mul, Int.natCast_pow]; rfl
  have h2' : y * 2 ^ s < 18446744073709551616 := h2
  rw [e, IntKind.wrap_u64]
  generalize y * 2 ^ s = k at *
  omega
theorem shl_mod (y s : Nat) : IntKind.u64.wrap ((y : Int) * 2 ^ s) = ((y * 2 ^ s % 18446744073709551616 : Nat) : Int) := by
  have e : (y : Int) * 2 ^ s = ((y * 2 ^ s : Nat) : Int) := by rw [Int.natCast_mul, Int.natCast_pow]; rfl
  rw [e, IntKind.wrap_u64]
  generalize y * 2 ^ s = k at *
  omega
structure Setup (hi lo y s v y1 y0 u n1 n0 : Nat) : Prop where
  norm : Norm v y1 y0
  ltv : v < 18446744073709551616
  ltu : u < v
  lt1 : n1 < 4294967296
  lt0 : n0 < 4294967296
  quo : (u * 18446744073709551616 + (n1 * 4294967296 + n0)) / v = (hi * 18446744073709551616 + lo) / y
  rem : (u * 18446744073709551616 + (n1 * 4294967296 + n0)) % v / 2 ^ s = (hi * 18446744073709551616 + lo) % y
theorem set_up (hi lo y s : Nat) (hh : hi < y) (hlo : lo < 18446744073709551616) (hs : s ≤ 63) (h1 : 2 ^ 63 ≤ y * 2 ^ s) (h2 : y * 2 ^ s < 2 ^ 64) :
    ∃ v y1 y0 u n1 n0 n10 : Nat, IntKind.u64.wrap ((y : Int) * 2 ^ s) = (v : Int) ∧ bits .and .u64 (v : Int) 4294967295 = (y0 : Int) ∧ (v : Int) / 4294967296 = (y1 : Int) ∧
      bits .or .u64 (IntKind.u64.wrap ((hi : Int) * 2 ^ s)) ((lo : Int) / 2 ^ (64 - s)) = (u : Int) ∧ IntKind.u64.wrap ((lo : Int) * 2 ^ s) = (n10 : Int) ∧
      bits .and .u64 (n10 : Int) 4294967295 = (n0 : Int) ∧ (n10 : Int) / 4294967296 = (n1 : Int) ∧ Setup hi lo y s v y1 y0 u n1 n0 := by
  have hP : 0 < 2 ^ s := Nat.two_pow_pos s
  have hPQ : 2 ^ s * 2 ^ (64 - s) = 18446744073709551616 := by rw [← Nat.pow_add, show s + (64 - s) = 64 by omega]
  have hQ : 0 < 2 ^ (64 - s) := Nat.two_pow_pos _
  have hhs : (hi + 1) * 2 ^ s ≤ y * 2 ^ s := Nat.mul_le_mul_right _ hh
  rw [Nat.add_mul, Nat.one_mul] at hhs
  have h2' : y * 2 ^ s < 18446744073709551616 := h2
  have h1' : 9223372036854775808 ≤ y * 2 ^ s := h1
  have hl1 : lo / 2 ^ (64 - s) < 2 ^ s := by
    rw [Nat.div_lt_iff_lt_mul hQ, hPQ]; exact hlo
  have hor : hi * 2 ^ s ||| lo / 2 ^ (64 - s) = hi * 2 ^ s + lo / 2 ^ (64 - s) := nat_join s _ _ (by simp) hl1
  have ehi := shl_u hi s (by show _ < 18446744073709551616; omega)
  have elo : ((lo : Int) / 2 ^ (64 - s)) = ((lo / 2 ^ (64 - s) : Nat) : Int) := by
    rw [Int.natCast_ediv, Int.natCast_pow]; rfl
  have hdm := Nat.div_add_mod lo (2 ^ (64 - s))
  have hsplit : lo * 2 ^ s = lo / 2 ^ (64 - s) * 18446744073709551616 + lo * 2 ^ s % 18446744073709551616 := by
    have : lo * 2 ^ s / 18446744073709551616 = lo / 2 ^ (64 - s) := by
      rw [← hPQ, Nat.mul_comm lo, Nat.mul_div_mul_left _ _ hP]
    have := Nat.div_add_mod (lo * 2 ^ s) 18446744073709551616
    omega
  have hsh := shifted (hi * 18446744073709551616 + lo) y s
  have hall : (hi * 18446744073709551616 + lo) * 2 ^ s = (hi * 2 ^ s + lo / 2 ^ (64 - s)) * 18446744073709551616 + (lo * 2 ^ s % 18446744073709551616 / 4294967296 * 4294967296 + lo * 2 ^ s % 18446744073709551616 % 4294967296) := by
    rw [Nat.add_mul, Nat.mul_right_comm]
    omega
  rw [hall] at hsh
  refine ⟨y * 2 ^ s, y * 2 ^ s / 4294967296, y * 2 ^ s % 4294967296, hi * 2 ^ s + lo / 2 ^ (64 - s), lo * 2 ^ s % 18446744073709551616 / 4294967296, lo * 2 ^ s % 18446744073709551616 % 4294967296, lo * 2 ^ s % 18446744073709551616,
    shl_u y s h2, MulN.maskN _ h2', by omega, ?_, shl_mod lo s, MulN.maskN _ (by omega), by omega, ⟨⟨by omega, by omega, by omega, by omega⟩, h2', by omega, by omega, by omega, hsh.1, hsh.2⟩⟩
  rw [ehi, elo, bits_or_u64_nat _ _ (by omega) (by omega), hor]
theorem u64_mul (a b : Nat) (h : a * b < 18446744073709551616) : IntKind.u64.wrap ((a : Int) * b) = ((a * b : Nat) : Int) := by
  rw [IntKind.wrap_u64, ← Int.natCast_mul]; omega
theorem dig_setup {u v y1 y0 n1 : Nat} (h : Norm v y1 y0) (hn : n1 < 4294967296) (hu : u < v) (hv : v < 18446744073709551616) :
    ∃ q p r : Nat, (u : Int) / y1 = (q : Int) ∧ IntKind.u64.wrap ((q : Int) * y1) = (p : Int) ∧ (u : Int) - p = (r : Int) ∧ p ≤ u ∧ q ≤ 4294967297 ∧ r < 4294967296 ∧ 0 < y1 ∧ y1 < 4294967296 ∧ u < 18446744073709551616 ∧ Dig u v y1 n1 q r := by
  have d := Dig.first h hn hu
  have e := Nat.div_mul_le_self u y1
  have t := h.high
  have t' := h.top
  refine ⟨u / y1, u / y1 * y1, u - u / y1 * y1, (Int.natCast_ediv u y1).symm, u64_mul _ _ (by omega), by omega, e, d.2.2.1, d.2.2.2, by omega, t', by omega, d⟩
theorem dig_test {u v y1 y0 n1 Q R : Nat} (h : Norm v y1 y0) (d : Dig u v y1 n1 Q R) (hn : n1 < 4294967296) (hu : u < v) (ht : 4294967296 ≤ Q ∨ 4294967296 * R + n1 < Q * y0) :
    0 < Q ∧ R < 4294967296 ∧ (R + y1 < 4294967296 → Dig u v y1 n1 (Q - 1) (R + y1)) ∧ (4294967296 ≤ R + y1 → DigAt u v n1 (Q - 1)) :=
  let ⟨a, b, c⟩ := d.less h hn hu ht; ⟨a, d.2.2.2, b, c⟩
theorem mul_small {Q y0 : Nat} (h1 : Q < 4294967296) (h2 : y0 < 4294967296) : ∃ m : Nat, IntKind.u64.wrap ((Q : Int) * y0) = (m : Int) ∧ m = Q * y0 := by
  have := Nat.mul_le_mul (Nat.le_of_lt_succ h1) (Nat.le_of_lt_succ h2)
  exact ⟨_, u64_mul Q y0 (by omega), rfl⟩
theorem num_pred {Q : Nat} (h : (1 : Int) ≤ (Q : Int)) : Value.int .u64 ((Q : Int) - 1) = .int .u64 ((Q - 1 : Nat) : Int) := by
  have : (Q : Int) - 1 = ((Q - 1 : Nat) : Int) := by omega
  rw [this]
theorem num_add (a b : Nat) : Value.int .u64 ((a : Int) + (b : Int)) = .int .u64 ((a + b : Nat) : Int) := by rw [Int.natCast_add]
theorem ret_u64s {a b c d : Int} (h1 : a = c) (h2 : b = d) : Ending.returned (.tuple #[.int .u64 a, .int .u64 b]) = .returned (.tuple #[.int .u64 c, .int .u64 d]) := by rw [h1, h2]
theorem dig_bools {Q R y0 n1 : Nat} (h : 4294967296 ≤ Q ∨ 4294967296 * R + n1 < Q * y0) (hy0 : y0 < 4294967296) (hn : n1 < 4294967296) (hR : (R : Int) < 4294967296) :
    ∃ m : Nat, ((Q : Int) < 4294967296 → IntKind.u64.wrap ((Q : Int) * y0) = (m : Int)) ∧ (decide ((4294967296 : Int) ≤ (Q : Int)) = true ∨
      (decide ((4294967296 : Int) ≤ (Q : Int)) = false ∧ IntKind.u64.wrap ((Q : Int) * y0) = (m : Int) ∧ decide ((4294967296 : Int) * R + n1 < (m : Int)) = true)) := by
  refine ⟨Q * y0, ?_, ?_⟩
  · intro hq
    exact u64_mul Q y0 (by have := Nat.mul_le_mul (show Q ≤ 4294967295 by omega) (show y0 ≤ 4294967295 by omega); omega)
  · by_cases hq : 4294967296 ≤ Q
    · left; simp only [decide_eq_true_eq]; omega
    · right
      have hl := Nat.mul_le_mul (show Q ≤ 4294967295 by omega) (show y0 ≤ 4294967295 by omega)
      refine ⟨by simp only [decide_eq_false_iff_not]; omega, u64_mul Q y0 (by omega), ?_⟩
      rcases h with h | h
      · omega
      · simp only [decide_eq_true_eq]; omega
theorem dig_bools_no {Q R y0 n1 : Nat} (h : ¬ (4294967296 ≤ Q ∨ 4294967296 * R + n1 < Q * y0)) (hy0 : y0 < 4294967296) (hn : n1 < 4294967296) (hR : (R : Int) < 4294967296) :
    decide ((4294967296 : Int) ≤ (Q : Int)) = false ∧ ∃ m : Nat, IntKind.u64.wrap ((Q : Int) * y0) = (m : Int) ∧ decide ((4294967296 : Int) * R + n1 < (m : Int)) = false := by
  have hl := Nat.mul_le_mul (show Q ≤ 4294967295 by omega) (show y0 ≤ 4294967295 by omega)
  refine ⟨by simp only [decide_eq_false_iff_not]; omega, Q * y0, u64_mul Q y0 (by omega), ?_⟩
  simp only [decide_eq_false_iff_not]; omega
theorem rest_w {u v n1 Q : Nat} (d : DigAt u v n1 Q) (hu : u < v) (hn : n1 < 4294967296) (hv : v < 18446744073709551616) :
    ∃ r : Nat, IntKind.u64.wrap (IntKind.u64.wrap (IntKind.u64.wrap ((u : Int) * 4294967296) + n1) - IntKind.u64.wrap ((Q : Int) * v)) = (r : Int) ∧ Hid (r = (u * 4294967296 + n1) % v) ∧ r < v ∧ Q < 4294967296 := by
  obtain ⟨a, b, c⟩ := d.rest hu hn hv
  exact ⟨_, by simp only [IntKind.wrap_u64]; exact b, rfl, c, a⟩
theorem div_fin {hi lo y s v y1 y0 u n1 n0 q1 r1 q0 r0 : Nat} (h : Setup hi lo y s v y1 y0 u n1 n0) (d1 : DigAt u v n1 q1) (e1 : r1 = (u * 4294967296 + n1) % v)
    (d0 : DigAt r1 v n0 q0) (e0 : r0 = (r1 * 4294967296 + n0) % v) : q1 * 4294967296 + q0 = (hi * 18446744073709551616 + lo) / y ∧ r0 / 2 ^ s = (hi * 18446744073709551616 + lo) % y := by
  obtain ⟨a, b⟩ := two_digits u v n1 n0 (by have := h.ltu; omega)
  unfold DigAt at d1 d0
  rw [← h.quo, ← h.rem, a, b, ← e1, ← d1, ← e0, ← d0]
  exact ⟨rfl, rfl⟩
set_option maxHeartbeats 2000000 in
set_option maxRecDepth 100000 in
theorem div64_big (hi lo y : Nat) (w : World) (h0 : 0 < hi) (hh : hi < y) (hy : y < 18446744073709551616) (hlo : lo < 18446744073709551616) :
    Calls Tryz.prog 200 #[.int .u64 hi, .int .u64 lo, .int .u64 y] w fun e w' => e = .returned (.tuple #[.int .u64 (((hi * 18446744073709551616 + lo) / y : Nat) : Int), .int .u64 (((hi * 18446744073709551616 + lo) % y : Nat) : Int)]) ∧ w = w' := by
  have h1 : ((y : Int) == 0) = false := by simp; omega
  have h2 : ¬ (y : Int) ≤ hi := by omega
  have h3 : ((hi : Int) == 0) = false := by simp; omega
  go_enter Tryz.func200, Tryz.ntmps200
  go_upto_block 0 with (go_at_call 206; refine (lead64 y _ (by omega) hy).mono ?_; rintro e w' ⟨⟨s, rfl, hs, hs1, hs2⟩, rfl⟩; obtain ⟨v, y1, y0, u, n1, n0, n10, e1, e2, e3, e4, e5, e6, e7, hset⟩ := set_up hi lo y s hh hlo hs hs1 hs2; obtain ⟨q, p, r, e8, e9, e10, hp, hq, hr, hy1, hy2, hu, hd⟩ := dig_setup hset.norm hset.lt1 hset.ltu hset.ltv)
  have hn1 := hset.lt1
  have hn0 := hset.lt0
  have hy0 := hset.norm.low
  have hv := hset.ltv
  have hs' : (s : Int) ≤ 63 := by omega
  clear e1 e2 e3 e4 e5 e6 e7 e8 e9 e10 hs1 hs2 h1 h2 h3
  go_cut [15, 16] (fun s15 s16 wx => ∃ Q : Nat, s15 = .int .u64 Q ∧ DigAt u v n1 Q ∧ w = wx)
  case first =>
    go_wp2_with fail
    go_loop [15, 16] (fun s15 s16 => ∃ Q R : Nat, s15 = .int .u64 Q ∧ s16 = .int .u64 R ∧ Dig u v y1 n1 Q R) (fun s15 _ => (intOf s15).toNat)
    case atStart => exact ⟨q, r, rfl, rfl, hd⟩
    case round =>
      obtain ⟨Q, R, rfl, rfl, hdig⟩ := hrel
      have hqi : (Q : Int) ≤ 4294967297 := by have := hdig.2.2.1; omega
      have hR : (R : Int) < 4294967296 := by have := hdig.2.2.2; omega
      by_cases hb : 4294967296 ≤ Q ∨ 4294967296 * R + n1 < Q * y0
      · obtain ⟨g0, -, g1, g2⟩ := dig_test hset.norm hdig hn1 hset.ltu hb
        have hg0 : (1 : Int) ≤ (Q : Int) := by omega
        have ⟨m, hm, ht⟩ := dig_bools hb hy0 hn1 hR
        by_cases hc : R + y1 < 4294967296
        · have g := g1 hc
          have hcd : decide ((4294967296 : Int) ≤ (R : Int) + (y1 : Int)) = false := by simp only [decide_eq_false_iff_not]; omega
          clear g1 g2 hdig hb hc
          rcases ht with ht | ⟨ht, ht'⟩
          all_goals
            go_wp2_with fail
            go_round
            case rel => exact ⟨Q - 1, R + y1, num_pred hg0, num_add R y1, g⟩
            case measure => simp [intOf]; omega
        · have g := g2 (by omega)
          have hcd : decide ((4294967296 : Int) ≤ (R : Int) + (y1 : Int)) = true := by simp only [decide_eq_true_eq]; omega
          clear g1 g2 hdig hb hc
          rcases ht with ht | ⟨ht, ht'⟩
          all_goals
            go_wp2_with fail
            go_meet
            exact ⟨Q - 1, num_pred hg0, g, rfl⟩
      · obtain ⟨ht, m, hm, ht'⟩ := dig_bools_no hb hy0 hn1 hR
        have g : DigAt u v n1 Q := hdig.done hset.norm (by omega) (by omega)
        clear hdig hb
        go_wp2_with fail
        go_meet
        exact ⟨Q, rfl, g, rfl⟩
  case rest =>
    obtain ⟨Q1, rfl, d1, rfl⟩ := hcut
    obtain ⟨r1, e1, hr1, hv1, hQ1⟩ := rest_w d1 hset.ltu hn1 hv
    obtain ⟨q', p', r', e8, e9, e10, hp', hq', hr', -, -, hu', hd'⟩ := dig_setup hset.norm hn0 hv1 hv
    go_upto_block 2 with fail
    clear e1 e8 e9 e10
    go_cut [16, 18] (fun s16 s18 wx => ∃ Q : Nat, s18 = .int .u64 Q ∧ DigAt r1 v n0 Q ∧ w = wx)
    case first =>
      go_wp2_with fail
      go_loop [16, 18] (fun s16 s18 => ∃ Q R : Nat, s18 = .int .u64 Q ∧ s16 = .int .u64 R ∧ Dig r1 v y1 n0 Q R) (fun _ s18 => (intOf s18).toNat)
      case atStart => exact ⟨q', r', rfl, rfl, hd'⟩
      case round =>
        obtain ⟨Q, R, rfl, rfl, hdig⟩ := hrel
        have hqi : (Q : Int) ≤ 4294967297 := by have := hdig.2.2.1; omega
        have hR : (R : Int) < 4294967296 := by have := hdig.2.2.2; omega
        by_cases hb : 4294967296 ≤ Q ∨ 4294967296 * R + n0 < Q * y0
        · obtain ⟨g0, -, g1, g2⟩ := dig_test hset.norm hdig hn0 hv1 hb
          have hg0 : (1 : Int) ≤ (Q : Int) := by omega
          have ⟨m, hm, ht⟩ := dig_bools hb hy0 hn0 hR
          by_cases hc : R + y1 < 4294967296
          · have g := g1 hc
            have hcd : decide ((4294967296 : Int) ≤ (R : Int) + (y1 : Int)) = false := by simp only [decide_eq_false_iff_not]; omega
            clear g1 g2 hdig hb hc
            rcases ht with ht | ⟨ht, ht'⟩
            all_goals
              go_wp2_with fail
              go_round
              case rel => exact ⟨Q - 1, R + y1, num_pred hg0, num_add R y1, g⟩
              case measure => simp [intOf]; omega
          · have g := g2 (by omega)
            have hcd : decide ((4294967296 : Int) ≤ (R : Int) + (y1 : Int)) = true := by simp only [decide_eq_true_eq]; omega
            clear g1 g2 hdig hb hc
            rcases ht with ht | ⟨ht, ht'⟩
            all_goals
              go_wp2_with fail
              go_meet
              exact ⟨Q - 1, num_pred hg0, g, rfl⟩
        · obtain ⟨ht, m, hm, ht'⟩ := dig_bools_no hb hy0 hn0 hR
          have g : DigAt r1 v n0 Q := hdig.done hset.norm (by omega) (by omega)
          clear hdig hb
          go_wp2_with fail
          go_meet
          exact ⟨Q, rfl, g, rfl⟩
    case rest =>
      obtain ⟨Q0, rfl, d0, rfl⟩ := hcut
      obtain ⟨r0, e1, hr0, hv0, hQ0⟩ := rest_w d0 hv1 hn0 hv
      have hQ1' : (Q1 : Int) < 4294967296 := by omega
      have hQ0' : (Q0 : Int) < 4294967296 := by omega
      go_wp2_with fail
      go_ret2
      obtain ⟨f1, f2⟩ := div_fin hset d1 hr1.out d0 hr0.out
      refine ⟨?_, rfl⟩
      rw [← f1, ← f2]
      exact ret_u64s (by omega) (by rw [Int.natCast_ediv, Int.natCast_pow]; rfl)
theorem div64 (hi lo y : Nat) (w : World) (hh : hi < y) (hy : y < 18446744073709551616) (hlo : lo < 18446744073709551616) :
    Calls Tryz.prog 200 #[.int .u64 hi, .int .u64 lo, .int .u64 y] w fun e w' => e = .returned (.tuple #[.int .u64 (((hi * 18446744073709551616 + lo) / y : Nat) : Int), .int .u64 (((hi * 18446744073709551616 + lo) % y : Nat) : Int)]) ∧ ∃ n, w' = w.drewN n := by
  rcases Nat.eq_zero_or_pos hi with h | h
  · subst h
    rw [Nat.zero_mul, Nat.zero_add]
    exact div64_small lo y w hh hy hlo
  · exact (div64_big hi lo y w h hh hy hlo).mono fun e w' ⟨h1, h2⟩ => ⟨h1, 0, by rw [← h2]; rfl⟩
end Go.Proofs.YtgpljldfbhkdlaaGreat

namespace Go.Proofs.YtgpljldfbhkdlaaGreat
open Go.RowKit NumA
def hiW (n : Int) : Int := n / 18446744073709551616
def loW (n : Int) : Int := n % 18446744073709551616
theorem hiW_word {n : Int} (h0 : 0 ≤ n) (h1 : n < 340282366920938463463374607431768211456) : Word (hiW n) := by unfold Word hiW; omega
theorem loW_word (n : Int) : Word (loW n) := by unfold Word loW; omega
theorem hiW_loW (n : Int) : hiW n * 18446744073709551616 + loW n = n := by unfold hiW loW; omega
theorem hiW_of {h l : Int} (hl : Word l) : hiW (h * 18446744073709551616 + l) = h := by unfold Word at hl; unfold hiW; omega
theorem loW_of {h l : Int} (hl : Word l) : loW (h * 18446744073709551616 + l) = l := by unfold Word at hl; unfold loW; omega
theorem mul_lt_128 {x y : Int} (hx : Word x) (hy : Word y) : 0 ≤ x * y ∧ x * y < 340282366920938463463374607431768211456 := by
  obtain ⟨a, b⟩ := hx; obtain ⟨c, d⟩ := hy
  refine ⟨Int.mul_nonneg a c, ?_⟩
  have : x * y ≤ 18446744073709551615 * 18446744073709551615 := Int.mul_le_mul (by omega) (by omega) c (by omega)
  omega
abbrev wideV (h l : Int) : Value := .agg #[.int .u64 h, .int .u64 l]
theorem product_c (x y : Int) (w : World) (hx : Word x) (hy : Word y) :
    Calls Tryz.prog 100 #[.int .u64 x, .int .u64 y] w fun e w' => e = .returned (wideV (hiW (x * y)) (loW (x * y))) ∧ Below w.heap.size w w' := by
  go_enter Tryz.func100, Tryz.ntmps100
  go_wp2_with (go_at_call 162; refine (mul64 _ _ hx hy _).mono ?_; rintro e w' ⟨rfl, rfl⟩)
  exact bodyPost_ret (v := wideV (hiW (x * y)) (loW (x * y))) (by simp [results, Tryz.results100, go_sem, hiW, loW]) rfl ⟨rfl, (Below.refl _ _).alloc (Nat.le_refl _) _⟩
def carryI (b d : Int) : Int := (b + d) / 18446744073709551616
theorem plus_c (a b c d : Int) (w : World) (ha : Word a) (hb : Word b) (hc : Word c) (hd : Word d) (hr : a + c + carryI b d < 18446744073709551616) :
    Calls Tryz.prog 102 #[wideV a b, wideV c d] w fun e w' => e = .returned (wideV (a + c + carryI b d) (loW (b + d))) ∧ Below w.heap.size w w' := by
  obtain ⟨a1, a2⟩ := ha; obtain ⟨b1, b2⟩ := hb; obtain ⟨c1, c2⟩ := hc; obtain ⟨d1, d2⟩ := hd
  unfold carryI at *
  have k0 : 0 ≤ (b + d) / 18446744073709551616 := by omega
  have k1 : (b + d) / 18446744073709551616 ≤ 1 := by omega
  go_enter Tryz.func102, Tryz.ntmps102
  go_wp2_with (first | simp only [add64_0 b d b1 d1] | simp only [add64 a c _ a1 c1 k0 k1])
  refine bodyPost_ret (v := wideV (a + c + (b + d) / 18446744073709551616) (loW (b + d))) ?_ rfl ⟨rfl, ?_⟩
  · have e : (a + c + (b + d) / 18446744073709551616) % 18446744073709551616 = a + c + (b + d) / 18446744073709551616 := by omega
    simp [results, Tryz.results102, go_sem, loW, e]
  · exact (((Below.refl _ _).alloc (Nat.le_refl _) _).alloc (by simp) _).alloc (by simp; omega) _
def cmpI (a b : Int) : Int := if a < b then -1 else if b < a then 1 else 0
theorem isNaN_c (x : Int) (w : World) : Calls Tryz.prog 191 #[.int .u64 x] w fun e w' => e = .returned (.bool false) ∧ w = w' := by
  go_enter Tryz.func191, Tryz.ntmps191
  go_wp2
  go_ret
  exact ⟨by simp, rfl⟩
theorem compare_c (x y : Int) (w : World) : Calls Tryz.prog 165 #[.int .u64 x, .int .u64 y] w fun e w' => e = .returned (.int .i64 (cmpI x y)) ∧ w = w' := by
  unfold cmpI
  go_enter Tryz.func165, Tryz.ntmps165
  go_wp2_with (go_at_call 191; refine (isNaN_c _ _).mono ?_; rintro e w' ⟨rfl, rfl⟩)
  all_goals (go_ret; exact ⟨by simp [*], rfl⟩)
def orI (x y : Int) : Int := if x = 0 then y else x
theorem or_c (x y : Int) (b : Nat) (w : World) (h0 : w.cell? ⟨b, 0, none⟩ = some (.int .i64 x)) (h1 : w.cell? ⟨b, 1, none⟩ = some (.int .i64 y)) :
    Calls Tryz.prog 164 #[.slice (some ⟨b, 0, none⟩) 2 2] w fun e w' => e = .returned (.int .i64 (orI x y)) ∧ w = w' := by
  unfold orI
  go_enter Tryz.func164, Tryz.ntmps164
  go_wp2
  go_loop [5, 8] (fun _ i => i = .int .i64 0 ∨ (i = .int .i64 1 ∧ x = 0) ∨ (i = .int .i64 2 ∧ x = 0 ∧ y = 0)) (fun _ i => (2 - intOf i).toNat)
  case atStart => exact .inl rfl
  case round =>
    rcases hrel with rfl | ⟨rfl, rfl⟩ | ⟨rfl, rfl, rfl⟩
    · by_cases hx : x = 0
      · subst hx
        go_wp2
        go_round
        case rel => simp
        case measure => simp [intOf]
      · have hxb : (x != 0) = true := by simpa using hx
        go_wp2
        go_ret
        exact ⟨by simp [hx], rfl⟩
    · by_cases hy : y = 0
      · subst hy
        go_wp2
        go_round
        case rel => simp
        case measure => simp [intOf]
      · have hxb : (y != 0) = true := by simpa using hy
        go_wp2
        go_ret
        exact ⟨by simp, rfl⟩
    · go_wp2
      go_ret
      exact ⟨by simp, rfl⟩
set_option maxHeartbeats 1000000 in
theorem wcompare_c (a b c d : Int) (w : World) :
    Calls Tryz.prog 105 #[wideV a b, wideV c d] w fun e w' => e = .returned (.int .i64 (orI (cmpI a c) (cmpI b d))) ∧ Below w.heap.size w w' := by
  go_enter Tryz.func105, Tryz.ntmps105
  go_wp2_with fail
  go_region_held3 (fun w' => w'.cell? ⟨w.heap.size, 0, none⟩ = some (.int .u64 a) ∧ w'.cell? ⟨w.heap.size, 1, none⟩ = some (.int .u64 b) ∧ w'.cell? ⟨w.heap.size + 1, 0, none⟩ = some (.int .u64 c) ∧ w'.cell? ⟨w.heap.size + 1, 1, none⟩ = some (.int .u64 d)) (simp [go_sem, World.cell?_alloc_past])
    (first
      | (go_at_call_of 165 (Value.int .u64 a); refine (compare_c a c _).mono ?_; rintro e w' ⟨rfl, rfl⟩)
      | (go_at_call_of 165 (Value.int .u64 b); refine (compare_c b d _).mono ?_; rintro e w' ⟨rfl, rfl⟩)
      | (go_at_call 164; refine (or_c (cmpI a c) (cmpI b d) (w.heap.size + 2) _ (by simp [go_sem]) (by simp [go_sem])).mono ?_; rintro e w' ⟨rfl, rfl⟩))
  go_wp2
  go_ret
  refine ⟨rfl, ?_⟩
  exact ((((Below.refl _ _).alloc (Nat.le_refl _) _).alloc (by simp) _).alloc (by simp; omega) _).drew
def quoI (h l b : Int) : Int := (h * 18446744073709551616 + l) / b
def remI (h l b : Int) : Int := (h * 18446744073709551616 + l) % b
theorem div64_i (h l b : Int) (w : World) (hh : 0 ≤ h) (hl : Word l) (hb : b < 18446744073709551616) (hlt : h < b) :
    Calls Tryz.prog 200 #[.int .u64 h, .int .u64 l, .int .u64 b] w fun e w' => e = .returned (.tuple #[.int .u64 (quoI h l b), .int .u64 (remI h l b)]) ∧ ∃ n, w' = w.drewN n := by
  obtain ⟨l1, l2⟩ := hl
  obtain ⟨h, rfl⟩ := Int.eq_ofNat_of_zero_le hh
  obtain ⟨l, rfl⟩ := Int.eq_ofNat_of_zero_le l1
  obtain ⟨b, rfl⟩ := Int.eq_ofNat_of_zero_le (show 0 ≤ b by omega)
  have e1 : quoI (h : Int) l b = (((h * 18446744073709551616 + l) / b : Nat) : Int) := by unfold quoI; rw [Int.natCast_ediv, Int.natCast_add, Int.natCast_mul]; rfl
  have e2 : remI (h : Int) l b = (((h * 18446744073709551616 + l) % b : Nat) : Int) := by unfold remI; rw [Int.natCast_emod, Int.natCast_add, Int.natCast_mul]; rfl
  rw [e1, e2]
  exact div64 h l b w (by omega) (by omega) (by omega)
theorem over_yes (h l b : Int) (w : World) (hh : 0 ≤ h) (hl : Word l) (hb : b < 18446744073709551616) (hlt : h < b) :
    Calls Tryz.prog 183 #[wideV h l, .int .u64 b] w fun e w' => e = .returned (.tuple #[.int .u64 (quoI h l b), .int .u64 (remI h l b), .bool true]) ∧ Below w.heap.size w w' := by
  have hd : decide ((b : Int) ≤ (h : Int)) = false := by simp only [decide_eq_false_iff_not]; omega
  go_enter Tryz.func183, Tryz.ntmps183
  go_wp2_with (go_at_call 200; refine (div64_i h l b _ hh hl hb hlt).mono ?_; rintro e w' ⟨rfl, n, rfl⟩)
  go_ret3
  exact ⟨rfl, ((Below.refl _ _).alloc (Nat.le_refl _) _).trans ⟨rfl, rfl, rfl, Nat.le_refl _, fun _ _ => rfl⟩⟩
theorem over_no (h l b : Int) (w : World) (hlt : b ≤ h) :
    Calls Tryz.prog 183 #[wideV h l, .int .u64 b] w fun e w' => e = .returned (.tuple #[.int .u64 0, .int .u64 0, .bool false]) ∧ Below w.heap.size w w' := by
  have hd : decide ((b : Int) ≤ (h : Int)) = true := by simp only [decide_eq_true_eq]; omega
  go_enter Tryz.func183, Tryz.ntmps183
  go_wp2_with fail
  go_ret3
  exact ⟨rfl, (Below.refl _ _).alloc (Nat.le_refl _) _⟩
end Go.Proofs.YtgpljldfbhkdlaaGreat

namespace Go.Proofs.YtgpljldfbhkdlaaGreat
open Go.RowKit
theorem fsp_walkS {P : Program} {f : FuncId} {S : Fsp} (hn : ∀ (α : Type) args (k : AOut → Option α), S α args k = (S AOut args some).bind k) (hen : ∀ args w, (callFunc f args).run P w = .ok (.enter f args) w)
    (h : ∀ args out, S AOut args some = some out → args.all AVal.p1 = true ∧ out.plain = true ∧ ∀ w, Calls P f (args.map AVal.v1).toArray w fun e w' => e = out.ending ∧ Below w.heap.size w w') : FspOk P f S where
  enter := hen
  nat := hn
  calls := fun args out hout M w cargs hM hl hr => by
    obtain ⟨h1, h2, h3⟩ := h args out hout
    rw [reps_p1 hl hr h1]
    refine (h3 w).mono ?_
    rintro e w' ⟨rfl, hb⟩
    refine ⟨M, fun _ h => h, fun _ h => .inl h, fun b h => Nat.lt_of_lt_of_le (hM b h) hb.size, hb, ?_⟩
    cases out with
    | ret v => exact ⟨_, rfl, rep_v2 h2⟩
    | pan v => exact ⟨_, rfl, rep_v2 h2⟩
def wB (x : Int) : Bool := decide (0 ≤ x) && decide (x < 18446744073709551616)
theorem wB_iff {x : Int} : wB x = true ↔ Word x := by simp [wB, Word]
def mul64S : Fsp := fun _ args k => match args with
  | [.int .u64 x, .int .u64 y] => bif wB x && wB y then k (.ret (.tup [uN (hiW (x * y)), uN (loW (x * y))])) else none
  | _ => none
theorem mul64S_ok : FspOk Tryz.prog 162 mul64S := fsp_walkS (by intro α args k; unfold mul64S; split <;> simp only [cond_bind, Option.bind_some, Option.bind_none]) (fun args w => by kernel_rfl) fun args out h => by
  unfold mul64S at h
  split at h
  · rename_i x y
    cases hw : wB x && wB y
    · rw [hw] at h; cases h
    · rw [hw] at h; cases h
      simp only [Bool.and_eq_true, wB_iff] at hw
      refine ⟨rfl, rfl, fun w => (mul64 x y hw.1 hw.2 w).mono ?_⟩
      rintro e w' ⟨rfl, rfl⟩
      exact ⟨rfl, Below.refl _ _⟩
  · cases h
def prodS : Fsp := fun _ args k => match args with
  | [.int .u64 x, .int .u64 y] => bif wB x && wB y then k (.ret (.agg [uN (hiW (x * y)), uN (loW (x * y))])) else none
  | _ => none
theorem prodS_ok : FspOk Tryz.prog 100 prodS := fsp_walkS (by intro α args k; unfold prodS; split <;> simp only [cond_bind, Option.bind_some, Option.bind_none]) (fun args w => by kernel_rfl) fun args out h => by
  unfold prodS at h
  split at h
  · rename_i x y
    cases hw : wB x && wB y
    · rw [hw] at h; cases h
    · rw [hw] at h; cases h
      simp only [Bool.and_eq_true, wB_iff] at hw
      refine ⟨rfl, rfl, fun w => (product_c x y w hw.1 hw.2).mono ?_⟩
      rintro e w' ⟨rfl, hb⟩
      exact ⟨rfl, hb⟩
  · cases h
def cmpWS : Fsp := fun _ args k => match args with
  | [.agg [.int .u64 a, .int .u64 b], .agg [.int .u64 c, .int .u64 d]] => k (.ret (.int .i64 (orI (cmpI a c) (cmpI b d))))
  | _ => none
theorem cmpWS_ok : FspOk Tryz.prog 105 cmpWS := fsp_walkS (by intro α args k; unfold cmpWS; split <;> rfl) (fun args w => by kernel_rfl) fun args out h => by
  unfold cmpWS at h
  split at h
  · rename_i a b c d
    cases h
    refine ⟨rfl, rfl, fun w => (wcompare_c a b c d w).mono ?_⟩
    rintro e w' ⟨rfl, hb⟩
    exact ⟨rfl, hb⟩
  · cases h
def overS : Fsp := fun _ args k => match args with
  | [.agg [.int .u64 h, .int .u64 l], .int .u64 d] => bif wB h && wB l && wB d then (bif decide (d ≤ h) then k (.ret (.tup [uN 0, uN 0, bN false])) else k (.ret (.tup [uN (quoI h l d), uN (remI h l d), bN true]))) else none
  | _ => none
theorem overS_ok : FspOk Tryz.prog 183 overS := fsp_walkS (by intro α args k; unfold overS; split <;> simp only [cond_bind, Option.bind_some, Option.bind_none]) (fun args w => by kernel_rfl) fun args out h => by
  unfold overS at h
  split at h
  · rename_i x y d
    cases hw : wB x && wB y && wB d
    · rw [hw] at h; cases h
    · rw [hw] at h
      simp only [Bool.and_eq_true, wB_iff] at hw
      by_cases hd : d ≤ x
      · rw [decide_eq_true hd] at h; cases h
        refine ⟨rfl, rfl, fun w => (over_no x y d w hd).mono ?_⟩
        rintro e w' ⟨rfl, hb⟩
        exact ⟨rfl, hb⟩
      · rw [decide_eq_false hd] at h; cases h
        refine ⟨rfl, rfl, fun w => (over_yes x y d w hw.1.1.1 hw.1.2 hw.2.2 (by omega)).mono ?_⟩
        rintro e w' ⟨rfl, hb⟩
        exact ⟨rfl, hb⟩
  · cases h
def add64E : Fsp := fun _ args k => match args with
  | [.int .u64 x, .int .u64 y, .int .u64 c] => bif wB x && wB y && (decide (0 ≤ c) && decide (c ≤ 1)) then k (.ret (.tup [uN ((x + y + c) % 18446744073709551616), uN ((x + y + c) / 18446744073709551616)])) else none
  | _ => none
theorem add64E_at (cv : Cv) (h : CvOk Tryz.prog cv) (caps : List AVal) : CvAt Tryz.prog (extS add64E cv) (.fn 163 caps) := ext_at (by intro α args k; unfold add64E; split <;> simp only [cond_bind, Option.bind_some, Option.bind_none]) (fun args r h => by
  unfold add64E at h
  split at h
  · rename_i x y c
    cases hw : wB x && wB y && (decide (0 ≤ c) && decide (c ≤ 1))
    · rw [hw] at h; cases h
    · rw [hw] at h; cases h
      simp only [Bool.and_eq_true, wB_iff, decide_eq_true_eq] at hw
      exact ⟨_, rfl, ⟨_, rfl, fun f cs => by simp⟩, rfl, rfl, fun w => add64 x y c hw.1.1.1 hw.1.2.1 hw.2.1 hw.2.2 w⟩
  · cases h) cv h caps
def sub64E : Fsp := fun _ args k => match args with
  | [.int .u64 x, .int .u64 y, .int .u64 c] => bif wB x && wB y && (decide (0 ≤ c) && decide (c ≤ 1)) then k (.ret (.tup [uN ((x - y - c) % 18446744073709551616), uN (if x < y + c then 1 else 0)])) else none
  | _ => none
noncomputable def spA : FuncId → Option (Cv → Cv) := fun g => if g = 163 then some (extS add64E) else
  none
theorem spA_ok : SpOk spA := sp_cons add64E_at <|
  sp_nil
def fsA : FuncId → Option Fsp := fun g => if g = 162 then some mul64S else
  if g = 100 then some prodS else
  if g = 105 then some cmpWS else
  if g = 183 then some overS else
  none
theorem fsA_ok : FsOk fsA := fs_cons mul64S_ok <|
  fs_cons prodS_ok <|
  fs_cons cmpWS_ok <|
  fs_cons overS_ok <|
  fs_nil
end Go.Proofs.YtgpljldfbhkdlaaGreat

namespace Go.Proofs.YtgpljldfbhkdlaaGreat
open Go.RowKit
theorem i64w (n : Int) (h : -9223372036854775808 ≤ n ∧ n ≤ 9223372036854775807) : IntKind.i64.wrap n = n := by rw [IntKind.wrap_i64]; omega
theorem u64w (n : Int) (h : 0 ≤ n ∧ n ≤ 18446744073709551615) : IntKind.u64.wrap n = n := by rw [IntKind.wrap_u64]; omega
def vw (h l : Int) : Int := h * 18446744073709551616 + l
theorem vw_hl (n : Int) : vw (hiW n) (loW n) = n := hiW_loW n
def i6 (x : Int) : Bool := decide (-9223372036854775808 ≤ x) && decide (x ≤ 9223372036854775807)
theorem i6_iff {x : Int} : i6 x = true ↔ -9223372036854775808 ≤ x ∧ x ≤ 9223372036854775807 := by simp [i6]
theorem i6_ok {x : Int} (h : okB x = true) : i6 x = true := by rw [ok_iff] at h; rw [i6_iff]; omega
theorem wB_ab {x : Int} (h : i6 x = true) : wB (ab x) = true := by rw [i6_iff] at h; rw [wB_iff]; unfold Word ab; split <;> omega
theorem hi_wB {n : Int} (h : 0 ≤ n ∧ n < 340282366920938463463374607431768211456) : wB (hiW n) = true := wB_iff.2 (hiW_word h.1 h.2)
theorem lo_wB (n : Int) : wB (loW n) = true := wB_iff.2 (loW_word n)
def w2B (n : Int) : Bool := decide (0 ≤ n) && decide (n < 340282366920938463463374607431768211456)
theorem w2_iff {n : Int} : w2B n = true ↔ 0 ≤ n ∧ n < 340282366920938463463374607431768211456 := by simp [w2B]
def sizeS : Fsp := fun _ args k => match args with
  | [.int .i64 x] => bif i6 x then k (.ret (.int .u64 (ab x))) else none
  | _ => none
theorem size_plain {α : Type} (x : Int) (hx : i6 x = true) (k : AOut → Option α) : (bif decide (x < 0) then k (AOut.ret (AVal.int IntKind.u64 (IntKind.u64.wrap (0 - IntKind.u64.wrap x)))) else k (AOut.ret (AVal.int IntKind.u64 (IntKind.u64.wrap x)))) = k (.ret (.int .u64 (ab x))) := by
  rw [i6_iff] at hx
  unfold ab
  by_cases h : x < 0
  · rw [decide_eq_true h, if_pos h, cond_true, IntKind.wrap_u64, IntKind.wrap_u64]
    congr 3; omega
  · rw [decide_eq_false h, if_neg h, cond_false, u64w _ (by omega)]
theorem size_text (N n : Nat) (α : Type) (x : Int) (k : AOut → Option α) : evFn real tab ((twT fsA spA).env real tab N n) N Tryz.f101 α [iN x] k =
 bif decide (x < 0) then k (AOut.ret (AVal.int IntKind.u64 (IntKind.u64.wrap (0 - IntKind.u64.wrap x)))) else k (AOut.ret (AVal.int IntKind.u64 (IntKind.u64.wrap x))) := by
 kernel_rfl
theorem sizeS_ok : FspOk Tryz.prog 101 sizeS := tower_S fsA_ok spA_ok ⟨Tryz.func101, fun _ _ => by kernel_rfl⟩ (by intro α args k; unfold sizeS; split <;> simp only [cond_bind, Option.bind_some, Option.bind_none]) fun args out hs h => by
  unfold sizeS at h
  split at h
  · rename_i x
    cases hx : i6 x
    · rw [hx] at h; cases h
    · rw [hx] at h; exact ⟨1, 1, (size_text 1 1 AOut x some).trans ((size_plain x hx some).trans h)⟩
  · cases h
theorem isize_text (N n : Nat) (α : Type) (x : Int) (k : AOut → Option α) : evFn real tab ((twT fsA spA).env real tab N n) N Tryz.f147 α [iN x] k =
 bif decide (x < 0) then k (AOut.ret (AVal.int IntKind.u64 (IntKind.u64.wrap (0 - IntKind.u64.wrap x)))) else k (AOut.ret (AVal.int IntKind.u64 (IntKind.u64.wrap x))) := by
 kernel_rfl
theorem isizeS_ok : FspOk Tryz.prog 147 sizeS := tower_S fsA_ok spA_ok ⟨Tryz.func147, fun _ _ => by kernel_rfl⟩ (by intro α args k; unfold sizeS; split <;> simp only [cond_bind, Option.bind_some, Option.bind_none]) fun args out hs h => by
  unfold sizeS at h
  split at h
  · rename_i x
    cases hx : i6 x
    · rw [hx] at h; cases h
    · rw [hx] at h; exact ⟨1, 1, (isize_text 1 1 AOut x some).trans ((size_plain x hx some).trans h)⟩
  · cases h
def signedS : Fsp := fun _ args k => match args with
  | [.int .u64 n, .bool neg] => bif wB n then (bif fxB n then k (i1 (sg neg n)) else k (mis fxm 4)) else none
  | _ => none
theorem signed_fin {n : Int} (neg : Bool) (h0 : 0 ≤ n) (h1 : n ≤ 70368744177664) {α : Type} (k : AOut → Option α) : (bif neg then k (AOut.ret (AVal.int IntKind.i64 (IntKind.i64.wrap (0 - IntKind.i64.wrap n)))) else k (AOut.ret (AVal.int IntKind.i64 (IntKind.i64.wrap n)))) = k (i1 (sg neg n)) := by
  cases neg
  · rw [cond_false, i64w _ (by omega)]; rfl
  · rw [cond_true, i64w n (by omega), i64w _ (by omega), Int.zero_sub]; rfl
theorem signed_text (N n : Nat) (α : Type) (x : Int) (b : Bool) (k : AOut → Option α) : evFn real tab ((twT fsA spA).env real tab N (n + 1)) N Tryz.f106 α [uN x, .bool b] k =
 bif !decide (x ≤ 70368744177664) then k (mis fxm 4) else bif b then k (AOut.ret (AVal.int IntKind.i64 (IntKind.i64.wrap (0 - IntKind.i64.wrap x)))) else k (AOut.ret (AVal.int
 IntKind.i64 (IntKind.i64.wrap x))) := by kernel_rfl
theorem signedS_ok : FspOk Tryz.prog 106 signedS := tower_S fsA_ok spA_ok ⟨Tryz.func106, fun _ _ => by kernel_rfl⟩ (by intro α args k; unfold signedS; split <;> simp only [cond_bind, Option.bind_some, Option.bind_none]) fun args out hs h => by
  unfold signedS at h
  split at h
  · rename_i x b
    cases hx : wB x
    · rw [hx] at h; cases h
    · rw [hx] at h
      rw [wB_iff] at hx
      refine ⟨1, 2, (signed_text 1 1 AOut x b some).trans ?_⟩
      rw [cond_true] at h
      rw [← h]
      unfold fxB
      by_cases hd : x ≤ 70368744177664
      · rw [decide_eq_true hd, Bool.not_true, cond_false, cond_true, signed_fin b hx.1 hd]
      · rw [decide_eq_false hd, Bool.not_false, cond_false, cond_true]
  · cases h
def rightS : Fsp := fun _ args k => match args with
  | [.ro (.int .i64) xs] => bif List.all (α := Int) xs okB then k t0 else k (mis fxm 2)
  | _ => none
theorem right_text (N n : Nat) (α : Type) (x : List Int) (k : AOut → Option α) : evFn real tab ((twT fsA spA).env real tab N (n + 1)) N Tryz.f99 α [.ro (.int .i64) x] k =
 afterL (iterL N (fun y : Int × Unit => bif decide (y.1 < (x.length : Int)) then if 0 ≤ y.1 ∧ y.1 < (x.length : Int) then bif decide (x.getD y.1.toNat (Int.ofNat 0) ≥
 -70368744177664) then bif !decide (x.getD y.1.toNat (Int.ofNat 0) ≤ 70368744177664) then finL (k (mis fxm 2)) else some (LRes.cont (IntKind.i64.wrap (y.1 + 1), ())) else finL (k
 (mis fxm 2)) else none else some (LRes.brk 0 (y.1, ()))) (0, ())) fun id _ => if id = 0 then k (AOut.ret (AVal.tup [])) else none := by kernel_rfl
theorem right_plain {α : Type} (x : List Int) (hl : x.length ≤ maxLen) (k : AOut → Option α) : evFn real tab ((twT fsA spA).env real tab (x.length + 1) 2) (x.length + 1) Tryz.f99 α [.ro (.int .i64) x] k = bif x.all okB then k t0 else k (mis fxm 2) := by
  rw [right_text]
  generalize hf : (fun y : Int × Unit => (_ : Option (LRes (Int × Unit) α))) = f
  have e : iterL (x.length + 1) f (0, ()) = bif (List.range x.length).any (fun i => !okB (x.getD i 0)) then finL (k (mis fxm 2)) else some (.brk 0 ((x.length : Int), ())) := by
    refine iterL_any (f := f) (fun i : Nat => ((i : Int), ())) _ (fin_not _) (brk_not _ _) x.length (fun i hi => ?_) ?_
    · rw [← hf]
      have h1 : decide ((i : Int) < (x.length : Int)) = true := decide_eq_true (by omega)
      have h2 : IntKind.i64.wrap ((i : Int) + 1) = ((i + 1 : Nat) : Int) := wrap_small (n := i + 1) (by omega)
      simp only [h1, cond_true, h2, show Int.ofNat 0 = 0 from rfl, show ((i : Int)).toNat = i from rfl]
      rw [if_pos ⟨by omega, by omega⟩]
      unfold okB
      by_cases a : -70368744177664 ≤ x.getD i 0
      · rw [decide_eq_true a]
        cases decide (x.getD i 0 ≤ 70368744177664) <;> rfl
      · rw [decide_eq_false a]; rfl
    · rw [← hf]
      have h1 : decide ((x.length : Int) < (x.length : Int)) = false := decide_eq_false (by omega)
      simp only [h1, cond_false]
  rw [e, any_range x fun n => !okB n]
  have : x.any (fun n => !okB n) = !x.all okB := by rw [List.not_all_eq_any_not]
  rw [this]
  cases x.all okB
  · simp only [Bool.not_false, cond_true, cond_false]
    cases k (mis fxm 2) <;> rfl
  · rfl
theorem rightS_ok : FspOk Tryz.prog 99 rightS := tower_S fsA_ok spA_ok ⟨Tryz.func99, fun _ _ => by kernel_rfl⟩ (by intro α args k; unfold rightS; split <;> simp only [cond_bind, Option.bind_some, Option.bind_none]) fun args out hs h => by
  unfold rightS at h
  split at h
  · rename_i x
    exact ⟨_, 2, (right_plain x (hs _ (by simp)).len some).trans h⟩
  · cases h
def plusS : Fsp := fun _ args k => match args with
  | [.agg [.int .u64 a, .int .u64 b], .agg [.int .u64 c, .int .u64 d]] => bif wB a && wB b && wB c && wB d && decide (vw a b + vw c d < 340282366920938463463374607431768211456) then k (.ret (.agg [uN (hiW (vw a b + vw c d)), uN (loW (vw a b + vw c d))])) else none
  | _ => none
theorem plus_text (N n : Nat) (α : Type) (a b c d : Int) (k : AOut → Option α) : evFn real tab ((twT fsA spA).env real tab N (n + 1)) N Tryz.f102 α [.agg [uN a, uN b], .agg [uN c, uN d]] k =
 bif wB b && wB d && (decide ((0 : Int) ≤ 0) && decide ((0 : Int) ≤ 1)) then bif wB a && wB c && (decide (0 ≤ (b + d + 0) / 18446744073709551616) && decide ((b + d + 0) /
 18446744073709551616 ≤ 1)) then k (AOut.ret (AVal.agg [AVal.int IntKind.u64 ((a + c + (b + d + 0) / 18446744073709551616) % 18446744073709551616), AVal.int IntKind.u64 ((b + d + 0)
 % 18446744073709551616)])) else none else none := by kernel_rfl
theorem plusS_ok : FspOk Tryz.prog 102 plusS := tower_S fsA_ok spA_ok ⟨Tryz.func102, fun _ _ => by kernel_rfl⟩ (by intro α args k; unfold plusS; split <;> simp only [cond_bind, Option.bind_some, Option.bind_none]) fun args out hs h => by
  unfold plusS at h
  split at h
  · rename_i a b c d
    cases hx : wB a && wB b && wB c && wB d && decide (vw a b + vw c d < 340282366920938463463374607431768211456)
    · rw [hx] at h; cases h
    · rw [hx, cond_true] at h
      refine ⟨1, 2, (plus_text 1 1 AOut a b c d some).trans (Eq.trans ?_ h)⟩
      simp only [Bool.and_eq_true, decide_eq_true_eq] at hx
      obtain ⟨⟨⟨⟨h1, h2⟩, h3⟩, h4⟩, h5⟩ := hx
      rw [h1, h2, h3, h4]
      rw [wB_iff] at h1 h2 h3 h4
      unfold Word at h1 h2 h3 h4
      unfold vw at h5
      rw [decide_eq_true (show (0 : Int) ≤ (b + d + 0) / 18446744073709551616 by omega), decide_eq_true (show (b + d + 0) / 18446744073709551616 ≤ 1 by omega)]
      have e1 : (a + c + (b + d + 0) / 18446744073709551616) % 18446744073709551616 = hiW (vw a b + vw c d) := by unfold hiW vw; omega
      have e2 : (b + d + 0) % 18446744073709551616 = loW (vw a b + vw c d) := by unfold loW vw; omega
      rw [e1, e2]
      rfl
  · cases h
def minusS : Fsp := fun _ args k => match args with
  | [.agg [.int .u64 a, .int .u64 b], .agg [.int .u64 c, .int .u64 d]] => bif wB a && wB b && wB c && wB d && decide (vw c d ≤ vw a b) then k (.ret (.agg [uN (hiW (vw a b - vw c d)), uN (loW (vw a b - vw c d))])) else none
  | _ => none
theorem cmp_vw {a b c d : Int} (hb : Word b) (hd : Word d) : orI (cmpI a c) (cmpI b d) = cmp3 (vw a b) (vw c d) := by
  unfold Word at hb hd
  unfold orI cmpI cmp3 vw
  repeat' split
  all_goals omega
def cmpVS : Fsp := fun _ args k => match args with
  | [.agg [.int .u64 a, .int .u64 b], .agg [.int .u64 c, .int .u64 d]] => bif wB b && wB d then k (.ret (.int .i64 (cmp3 (vw a b) (vw c d)))) else none
  | _ => none
theorem cmpVS_ok : FspOk Tryz.prog 105 cmpVS where
  enter := cmpWS_ok.enter
  nat := by intro α args k; unfold cmpVS; split <;> simp only [cond_bind, Option.bind_some, Option.bind_none]
  calls := fun args out h => cmpWS_ok.calls args out (by
    unfold cmpVS at h
    split at h
    · rename_i a b c d
      cases hx : wB b && wB d
      · rw [hx] at h; cases h
      · rw [hx] at h; cases h
        simp only [Bool.and_eq_true, wB_iff] at hx
        simp only [cmpWS, cmp_vw hx.1 hx.2]
    · cases h)
def howOf (g : Nat) : Option Int :=
  if g = 107 then some 0 else
  if g = 108 then some 1 else
  if g = 109 then some 2 else
  if g = 110 then some 3 else
  none
end Go.Proofs.YtgpljldfbhkdlaaGreat

namespace Go.Proofs.YtgpljldfbhkdlaaGreat
open Go.RowKit
def fsB : FuncId → Option Fsp := fun g =>
  if g = 101 then some sizeS else
  if g = 147 then some sizeS else
  if g = 106 then some signedS else
  if g = 99 then some rightS else
  if g = 102 then some plusS else
  if g = 105 then some cmpVS else fsA g
theorem fsB_ok : FsOk fsB :=
  fs_cons sizeS_ok <|
  fs_cons isizeS_ok <|
  fs_cons signedS_ok <|
  fs_cons rightS_ok <|
  fs_cons plusS_ok <|
  fs_cons cmpVS_ok <|
  fsA_ok
def rndP (how : Int) (neg : Bool) (n d : Int) : Int := bif decide (n / d < 18446744073709551616) then rnd how neg n d % 18446744073709551616 else 18446744073709551616
def fitK {α : Type} (neg : Bool) (n : Int) (k : AOut → Option α) : Option α := bif fxB n then k (i1 (sg neg n)) else k (mis fxm 4)
def qEnd {α : Type} (q : Int) (neg : Bool) (k : AOut → Option α) : Option α := bif wB q then fitK neg q k else none
theorem fitK_bind {α β : Type} (neg : Bool) (n : Int) (k : AOut → Option α) (K : α → Option β) : (fitK neg n k).bind K = fitK neg n fun o => (k o).bind K := by unfold fitK; rw [cond_bind]
def quotS : Fsp := fun _ args k => match args with
  | [.agg [.int .u64 h, .int .u64 l], .int .u64 d, .bool neg, .fn g []] =>
    match howOf g with
    | some how => bif wB h && wB l && wB d && decide (0 < d) then fitK neg (rndP how neg (vw h l) d) k else none
    | none => none
  | _ => none
theorem qEnd_of {α : Type} {q : Int} (neg : Bool) (k : AOut → Option α) (h : 0 ≤ q ∧ q < 18446744073709551616) : qEnd q neg k = fitK neg q k := by
  unfold qEnd
  rw [wB_iff.2 h, cond_true]
theorem quo_div {h l d : Int} : quoI h l d = vw h l / d := rfl
theorem rem_mod {h l d : Int} : remI h l d = vw h l % d := rfl
theorem quot_big {how : Int} {neg : Bool} {h l d : Int} (h0 : 0 < d) (hl : Word l) (hd : d ≤ h) {α : Type} (k : AOut → Option α) : fitK neg (rndP how neg (vw h l) d) k = k (mis fxm 4) := by
  have : ¬ vw h l / d < 18446744073709551616 := by
    have e : 18446744073709551616 * d ≤ vw h l := by unfold vw; unfold Word at hl; omega
    have := Int.le_ediv_of_mul_le h0 e
    omega
  unfold rndP
  rw [decide_eq_false this]
  rfl
theorem quot_small {how : Int} {neg : Bool} {h l d : Int} (hh : Word h) (hl : Word l) (hd : h < d) {b : Bool} (hb : up1 how neg (remI h l d) d = b) : rndP how neg (vw h l) d = (quoI h l d + bif b then 1 else 0) % 18446744073709551616 ∧ 0 ≤ quoI h l d ∧ quoI h l d < 18446744073709551616 := by
  unfold Word at hh hl
  have h1 : vw h l / d < 18446744073709551616 := by
    refine Int.ediv_lt_of_lt_mul (by omega) ?_
    unfold vw
    have : (h + 1) * 18446744073709551616 ≤ d * 18446744073709551616 := Int.mul_le_mul_of_nonneg_right (by omega) (by omega)
    rw [Int.mul_comm 18446744073709551616]
    omega
  have h2 : 0 ≤ vw h l / d := Int.ediv_nonneg (by unfold vw; omega) (by omega)
  refine ⟨?_, h2, h1⟩
  unfold rndP rnd
  rw [decide_eq_true h1, cond_true, ← rem_mod, hb]
  rfl
theorem quot_up {α : Type} {q : Int} (neg b : Bool) (k : AOut → Option α) (h : 0 ≤ q ∧ q < 18446744073709551616) : (bif b then qEnd (IntKind.u64.wrap (q + 1)) neg k else qEnd q neg k) = fitK neg ((q + bif b then 1 else 0) % 18446744073709551616) k := by
  cases b
  · rw [cond_false, cond_false, qEnd_of _ _ h, Int.add_zero, show q % 18446744073709551616 = q by omega]
  · rw [cond_true, cond_true, IntKind.wrap_u64, qEnd_of _ _ (by omega)]
theorem quot_plain {α : Type} {h l d : Int} {neg : Bool} {how : Int} (hx : (wB h && wB l && wB d && decide (0 < d)) = true) (m : Bool) (hm : 0 < remI h l d → up1 how neg (remI h l d) d = m) (k : AOut → Option α) (M : Option α)
    (hM : M = bif m then qEnd (IntKind.u64.wrap (quoI h l d + 1)) neg k else qEnd (quoI h l d) neg k) :
    (bif wB h && wB l && wB d then
      bif decide (d ≤ h) then k (mis fxm 4)
      else
        bif decide (remI h l d > 0) then
          bif wB 0 && wB (remI h l d) && wB 0 && wB (remI h l d) && decide (vw 0 (remI h l d) + vw 0 (remI h l d) < 340282366920938463463374607431768211456) then
            bif wB (loW (vw 0 (remI h l d) + vw 0 (remI h l d))) && wB d then M
            else none
          else none
        else qEnd (quoI h l d) neg k
    else none) = fitK neg (rndP how neg (vw h l) d) k := by
  simp only [Bool.and_eq_true, decide_eq_true_eq] at hx
  obtain ⟨⟨⟨h1, h2⟩, h3⟩, h4⟩ := hx
  rw [h1, h2, h3]
  rw [wB_iff] at h1 h2 h3
  simp only [Bool.and_self, cond_true]
  by_cases hd : d ≤ h
  · rw [decide_eq_true hd, cond_true, quot_big h4 h2 hd]
  · rw [decide_eq_false hd, cond_false]
    have r0 := Int.emod_nonneg (vw h l) (show d ≠ 0 by omega)
    have r1 := Int.emod_lt_of_pos (vw h l) h4
    rw [← rem_mod] at r0 r1
    by_cases hr : 0 < remI h l d
    · have hw : wB (remI h l d) = true := wB_iff.2 (by unfold Word at *; omega)
      rw [decide_eq_true (show remI h l d > 0 from hr), cond_true, hw, wB_iff.2 (show Word 0 by unfold Word; omega), decide_eq_true (show vw 0 (remI h l d) + vw 0 (remI h l d) < 340282366920938463463374607431768211456 by unfold vw; unfold Word at h3; omega), lo_wB]
      simp only [Bool.and_self, cond_true, hM]
      obtain ⟨e1, e2⟩ := quot_small (neg := neg) h1 h2 (by omega) (hm hr)
      rw [quot_up _ _ _ e2, e1]
    · rw [decide_eq_false (show ¬ remI h l d > 0 from hr), cond_false]
      have hu : up1 how neg (remI h l d) d = false := by unfold up1; rw [decide_eq_false hr]; rfl
      obtain ⟨e1, e2⟩ := quot_small (neg := neg) h1 h2 (by omega) hu
      rw [qEnd_of _ _ e2, e1, cond_false, Int.add_zero, show quoI h l d % 18446744073709551616 = quoI h l d by omega]
theorem quot0_text (N n : Nat) (α : Type) (h l d : Int) (neg : Bool) (k : AOut → Option α) : evFn real tab ((twT fsB spA).env real tab N (n + 2)) N Tryz.f146 α [.agg [uN h, uN l], uN d, .bool neg, .fn 107 []] k =
 bif wB h && wB l && wB d then bif decide (d ≤ h) then k (mis fxm 4) else bif decide (remI h l d > 0) then bif wB 0 && wB (remI h l d) && wB 0 && wB (remI h l d) && decide (vw 0
 (remI h l d) + vw 0 (remI h l d) < 340282366920938463463374607431768211456) then bif wB (loW (vw 0 (remI h l d) + vw 0 (remI h l d))) && wB d then qEnd (quoI h l d) neg k else none
 else none else qEnd (quoI h l d) neg k else none := by kernel_rfl
theorem quot0_plain (N n : Nat) (α : Type) (h l d : Int) (neg : Bool) (hx : (wB h && wB l && wB d && decide (0 < d)) = true) (k : AOut → Option α) : evFn real tab ((twT fsB spA).env real tab N (n + 2)) N Tryz.f146 α [.agg [uN h, uN l], uN d, .bool neg, .fn 107 []] k = fitK neg (rndP 0 neg (vw h l) d) k :=
  (quot0_text N n α h l d neg k).trans (quot_plain hx (false) (fun hr => by unfold up1; rw [decide_eq_true hr]; rfl) k _ rfl)
theorem quot1_text (N n : Nat) (α : Type) (h l d : Int) (neg : Bool) (k : AOut → Option α) : evFn real tab ((twT fsB spA).env real tab N (n + 2)) N Tryz.f146 α [.agg [uN h, uN l], uN d, .bool neg, .fn 108 []] k =
 bif wB h && wB l && wB d then bif decide (d ≤ h) then k (mis fxm 4) else bif decide (remI h l d > 0) then bif wB 0 && wB (remI h l d) && wB 0 && wB (remI h l d) && decide (vw 0
 (remI h l d) + vw 0 (remI h l d) < 340282366920938463463374607431768211456) then bif wB (loW (vw 0 (remI h l d) + vw 0 (remI h l d))) && wB d then bif neg then qEnd
 (IntKind.u64.wrap (quoI h l d + 1)) neg k else qEnd (quoI h l d) neg k else none else none else qEnd (quoI h l d) neg k else none := by kernel_rfl
theorem quot1_plain (N n : Nat) (α : Type) (h l d : Int) (neg : Bool) (hx : (wB h && wB l && wB d && decide (0 < d)) = true) (k : AOut → Option α) : evFn real tab ((twT fsB spA).env real tab N (n + 2)) N Tryz.f146 α [.agg [uN h, uN l], uN d, .bool neg, .fn 108 []] k = fitK neg (rndP 1 neg (vw h l) d) k :=
  (quot1_text N n α h l d neg k).trans (quot_plain hx (neg) (fun hr => by unfold up1; rw [decide_eq_true hr]; rfl) k _ rfl)
theorem quot2_text (N n : Nat) (α : Type) (h l d : Int) (neg : Bool) (k : AOut → Option α) : evFn real tab ((twT fsB spA).env real tab N (n + 2)) N Tryz.f146 α [.agg [uN h, uN l], uN d, .bool neg, .fn 109 []] k =
 bif wB h && wB l && wB d then bif decide (d ≤ h) then k (mis fxm 4) else bif decide (remI h l d > 0) then bif wB 0 && wB (remI h l d) && wB 0 && wB (remI h l d) && decide (vw 0
 (remI h l d) + vw 0 (remI h l d) < 340282366920938463463374607431768211456) then bif wB (loW (vw 0 (remI h l d) + vw 0 (remI h l d))) && wB d then bif !neg then qEnd
 (IntKind.u64.wrap (quoI h l d + 1)) neg k else qEnd (quoI h l d) neg k else none else none else qEnd (quoI h l d) neg k else none := by kernel_rfl
theorem quot2_plain (N n : Nat) (α : Type) (h l d : Int) (neg : Bool) (hx : (wB h && wB l && wB d && decide (0 < d)) = true) (k : AOut → Option α) : evFn real tab ((twT fsB spA).env real tab N (n + 2)) N Tryz.f146 α [.agg [uN h, uN l], uN d, .bool neg, .fn 109 []] k = fitK neg (rndP 2 neg (vw h l) d) k :=
  (quot2_text N n α h l d neg k).trans (quot_plain hx (!neg) (fun hr => by unfold up1; rw [decide_eq_true hr]; rfl) k _ rfl)
theorem quot3_text (N n : Nat) (α : Type) (h l d : Int) (neg : Bool) (k : AOut → Option α) : evFn real tab ((twT fsB spA).env real tab N (n + 2)) N Tryz.f146 α [.agg [uN h, uN l], uN d, .bool neg, .fn 110 []] k =
 bif wB h && wB l && wB d then bif decide (d ≤ h) then k (mis fxm 4) else bif decide (remI h l d > 0) then bif wB 0 && wB (remI h l d) && wB 0 && wB (remI h l d) && decide (vw 0
 (remI h l d) + vw 0 (remI h l d) < 340282366920938463463374607431768211456) then bif wB (loW (vw 0 (remI h l d) + vw 0 (remI h l d))) && wB d then bif decide (cmp3 (vw (hiW (vw 0
 (remI h l d) + vw 0 (remI h l d))) (loW (vw 0 (remI h l d) + vw 0 (remI h l d)))) (vw 0 d) ≥ 0) then qEnd (IntKind.u64.wrap (quoI h l d + 1)) neg k else qEnd (quoI h l d) neg k else
 none else none else qEnd (quoI h l d) neg k else none := by kernel_rfl
theorem quot3_plain (N n : Nat) (α : Type) (h l d : Int) (neg : Bool) (hx : (wB h && wB l && wB d && decide (0 < d)) = true) (k : AOut → Option α) : evFn real tab ((twT fsB spA).env real tab N (n + 2)) N Tryz.f146 α [.agg [uN h, uN l], uN d, .bool neg, .fn 110 []] k = fitK neg (rndP 3 neg (vw h l) d) k :=
  (quot3_text N n α h l d neg k).trans (quot_plain hx (decide (cmp3 (vw (hiW (vw 0 (remI h l d) + vw 0 (remI h l d))) (loW (vw 0 (remI h l d) + vw 0 (remI h l d)))) (vw 0 d) ≥ 0)) (fun hr => by
    unfold up1; rw [decide_eq_true hr, vw_hl]
    show decide (d ≤ remI h l d + remI h l d) = _
    rw [decide_eq_decide]; unfold cmp3 vw; repeat' split
    all_goals omega) k _ rfl)
theorem how_cases {g : Nat} {how : Int} (h : howOf g = some how) : False
  ∨ (g = 107 ∧ how = 0)
  ∨ (g = 108 ∧ how = 1)
  ∨ (g = 109 ∧ how = 2)
  ∨ (g = 110 ∧ how = 3)
  := by
  unfold howOf at h
  repeat' split at h
  all_goals first | (cases h; simp [*]; done) | cases h
theorem quotS_ok : FspOk Tryz.prog 146 quotS := tower_S fsB_ok spA_ok ⟨Tryz.func146, fun _ _ => by kernel_rfl⟩ (by intro α args k; unfold quotS; split <;> (try split) <;> simp only [cond_bind, fitK_bind, Option.bind_some, Option.bind_none]) fun args out hs h => by
  unfold quotS at h
  split at h
  · rename_i h1 l d neg g
    split at h
    · rename_i how hg
      cases hx : wB h1 && wB l && wB d && decide (0 < d)
      · rw [hx] at h; cases h
      · rw [hx, cond_true] at h
        rcases how_cases hg with hf
          | ⟨rfl, rfl⟩
          | ⟨rfl, rfl⟩
          | ⟨rfl, rfl⟩
          | ⟨rfl, rfl⟩
        · cases hf
        · exact ⟨1, 2, (quot0_plain 1 0 AOut h1 l d neg hx some).trans h⟩
        · exact ⟨1, 2, (quot1_plain 1 0 AOut h1 l d neg hx some).trans h⟩
        · exact ⟨1, 2, (quot2_plain 1 0 AOut h1 l d neg hx some).trans h⟩
        · exact ⟨1, 2, (quot3_plain 1 0 AOut h1 l d neg hx some).trans h⟩
    · cases h
  · cases h
end Go.Proofs.YtgpljldfbhkdlaaGreat
