/- Parts of the proof, in build order. -/
import Derived.Test.YtjfopfhkfmknlaaM9
import Derived.Test.YtjfopfhkfmknlaaM8
namespace Go.Proofs.Ytjfopfhkfmknlaa
open Go.RowKit
/-! The readings. -/
def laY {α : Type} (base i a w : Int) (R : List RdI) : Option (LRes (List RdI × Int × Unit) α) :=
  if (R.length + [(i, IntKind.i64.wrap (base + IntKind.i64.wrap (a.tmod 8)), IntKind.i64.wrap (IntKind.i64.wrap (base + IntKind.i64.wrap (a.tmod 8)) + IntKind.i64.wrap (w.tmod 4)), ())].length) * 24 ≤ room then
    some (.cont (R ++ [(i, IntKind.i64.wrap (base + IntKind.i64.wrap (a.tmod 8)), IntKind.i64.wrap (IntKind.i64.wrap (base + IntKind.i64.wrap (a.tmod 8)) + IntKind.i64.wrap (w.tmod 4)), ())], IntKind.i64.wrap (i + 1), ()))
  else none
def pk4 {α : Type} (i : Int) (X : Int → Option α) (a0 a1 a2 a3 : Int) : Option α :=
  if 0 ≤ i ∧ i < ((4 : Nat) : Int) then
    bif i == ((0 : Nat) : Int) then X a0 else bif i == ((0 + 1 : Nat) : Int) then X a1 else bif i == ((0 + 1 + 1 : Nat) : Int) then X a2 else bif i == ((0 + 1 + 1 + 1 : Nat) : Int) then X a3 else none
  else none
def laF {α : Type} (l : List SnI) (a0 a1 a2 a3 w0 w1 w2 w3 base : Int) (x : List RdI × Int × Unit) : Option (LRes (List RdI × Int × Unit) α) :=
  bif decide (x.2.1 < (l.length : Int)) then pk4 x.2.1 (fun a => pk4 x.2.1 (fun w => laY base x.2.1 a w x.1) w0 w1 w2 w3) a0 a1 a2 a3
  else some (.brk 0 (x.1, x.2.1, ()))
def at4 (a0 a1 a2 a3 : Int) (i : Nat) : Int := [a0, a1, a2, a3].getD i 0
theorem pk4_at {α : Type} {i : Nat} (hi : i < 4) (X : Int → Option α) (a0 a1 a2 a3 : Int) : pk4 (i : Int) X a0 a1 a2 a3 = X (at4 a0 a1 a2 a3 i) := by
  unfold pk4
  rw [if_pos (by omega)]
  match i, hi with
  | 0, _ => rfl
  | 1, _ => rfl
  | 2, _ => rfl
  | 3, _ => rfl
def laR (base : Int) (a w : Int) (i : Nat) : RdI := ((i : Int), base + a % 8, base + a % 8 + w % 4, ())
def laL (base a0 a1 a2 a3 w0 w1 w2 w3 : Int) (n : Nat) : List RdI := (List.range n).map fun i => laR base (at4 a0 a1 a2 a3 i) (at4 w0 w1 w2 w3 i) i
theorem w64_mid {x : Int} (h0 : 0 ≤ x) (h1 : x ≤ 1000000000) : IntKind.i64.wrap x = x := w64_small (by omega) h1
theorem la_run {α : Type} {l : List SnI} (hl : l.length ≤ 4) {a0 a1 a2 a3 w0 w1 w2 w3 base : Int} (ha : ∀ i, 0 ≤ at4 a0 a1 a2 a3 i) (hw : ∀ i, 0 ≤ at4 w0 w1 w2 w3 i) (h0 : 0 ≤ base) (h1 : base ≤ 200000000) (K : Nat → List RdI × Int × Unit → Option α) :
    afterL (iterL 300 (laF l a0 a1 a2 a3 w0 w1 w2 w3 base) ([], 0, ())) K = K 0 (laL base a0 a1 a2 a3 w0 w1 w2 w3 l.length, (l.length : Int), ()) := by
  have hmx : l.length ≤ maxLen := by have : maxLen = 9223372036854775807 := rfl; omega
  refine (count_loop (f := laF l a0 a1 a2 a3 w0 w1 w2 w3 base) (fun i => (laL base a0 a1 a2 a3 w0 w1 w2 w3 i, (i : Int), ())) l.length (fun i hi => ?_) (y := (laL base a0 a1 a2 a3 w0 w1 w2 w3 l.length, (l.length : Int), ())) (b := 0) ?_ (by omega)).trans rfl
  · unfold laF
    simp only [lt_len hi, cond_true]
    rw [pk4_at (by omega), pk4_at (by omega)]
    unfold laY
    have ha' := ha i
    have hw' := hw i
    have m1 : (at4 a0 a1 a2 a3 i).tmod 8 = at4 a0 a1 a2 a3 i % 8 := Int.tmod_eq_emod_of_nonneg ha'
    have m2 : (at4 w0 w1 w2 w3 i).tmod 4 = at4 w0 w1 w2 w3 i % 4 := Int.tmod_eq_emod_of_nonneg hw'
    rw [m1, m2]
    rw [w64_mid (show 0 ≤ at4 a0 a1 a2 a3 i % 8 by omega) (by omega), w64_mid (show 0 ≤ at4 w0 w1 w2 w3 i % 4 by omega) (by omega), w64_mid (show 0 ≤ base + at4 a0 a1 a2 a3 i % 8 by omega) (by omega), w64_mid (show 0 ≤ base + at4 a0 a1 a2 a3 i % 8 + at4 w0 w1 w2 w3 i % 4 by omega) (by omega), wrap_next hi hmx]
    have hlen : (laL base a0 a1 a2 a3 w0 w1 w2 w3 i).length = i := by unfold laL; rw [List.length_map, List.length_range]
    have e1 : laL base a0 a1 a2 a3 w0 w1 w2 w3 (i + 1) = laL base a0 a1 a2 a3 w0 w1 w2 w3 i ++ [laR base (at4 a0 a1 a2 a3 i) (at4 w0 w1 w2 w3 i) i] := by
      unfold laL; rw [List.range_succ, List.map_append]; rfl
    rw [hlen, e1, if_pos (by simp only [room, List.length_cons, List.length_nil]; omega)]
    rfl
  · unfold laF; simp only [not_lt_len, cond_false]
/-! All distances. -/
def enD (R : RdI) (n : Int) (i : Int) : Int := if IntKind.i64.wrap (R.2.1 + (n.fdiv (2 ^ min (IntKind.i64.wrap (2 * i)).toNat 64)).tmod 4) < R.2.2.1 then IntKind.i64.wrap (R.2.1 + (n.fdiv (2 ^ min (IntKind.i64.wrap (2 * i)).toNat 64)).tmod 4) else R.2.2.1
def enF {α : Type} (l : List SnI) (R : List RdI) (n : Int) (x : List Int × Int × Unit) : Option (LRes (List Int × Int × Unit) α) :=
  bif decide (x.2.1 < (l.length : Int)) then
    if 0 ≤ x.2.1 ∧ x.2.1 < (R.length : Int) then if 0 ≤ x.2.1 ∧ x.2.1 < (R.length : Int) then
      if IntKind.i64.wrap (2 * x.2.1) < 0 then none else
      if (x.1.length + [enD (rdG R x.2.1) n x.2.1].length) * 8 ≤ room then some (.cont (x.1 ++ [enD (rdG R x.2.1) n x.2.1], IntKind.i64.wrap (x.2.1 + 1), ())) else none
    else none else none
  else some (.brk 4 (x.1, x.2.1, ()))
def fdF {α : Type} (N : Nat) (l : List SnI) (R : List RdI) (x : Int × ScM × Unit) : Option (LRes (Int × ScM × Unit) α) :=
  bif decide (x.1 < 256) then
    afterL (iterL N (enF l R x.1) ([], 0, ())) fun id y => if id = 4 then
      bif dsB l y.1 then some (.cont (IntKind.i64.wrap (x.1 + 1), mpPut nmSh .bool ((dsS l y.1).1, (dsS l y.1).2.1, ()) true x.2.1, ())) else none
    else none
  else some (.brk 2 (x.1, x.2.1, ()))
def enL (R : List RdI) (n : Nat) (i : Nat) : List Int := (List.range i).map fun k => min ((R.getD k rdD).lo + ((n / 4 ^ k % 4 : Nat) : Int)) (R.getD k rdD).hi
theorem enD_eq {r : RdI} {n i : Nat} (hi : i < 4) (h0 : 0 ≤ r.lo) (h1 : r.lo ≤ 900000000) : enD r (n : Int) (i : Int) = min (r.lo + ((n / 4 ^ i % 4 : Nat) : Int)) r.hi := by
  unfold enD
  have e2 : IntKind.i64.wrap (2 * (i : Int)) = ((2 * i : Nat) : Int) := by rw [w64_small (by omega) (by omega)]; omega
  rw [e2, Int.toNat_natCast, Nat.min_eq_left (by omega)]
  have e3 : ((n : Int).fdiv ((2 : Int) ^ (2 * i))).tmod 4 = ((n / 4 ^ i % 4 : Nat) : Int) := by
    have p : (2 : Int) ^ (2 * i) = ((4 ^ i : Nat) : Int) := by
      rw [Int.pow_mul]; norm_cast
    rw [p]
    have q : (n : Int).fdiv ((4 ^ i : Nat) : Int) = ((n / 4 ^ i : Nat) : Int) := by
      rw [Int.fdiv_eq_ediv_of_nonneg _ (Int.natCast_nonneg _)]; rfl
    rw [q]
    rfl
  rw [e3]
  have hm : n / 4 ^ i % 4 < 4 := Nat.mod_lt _ (by omega)
  generalize n / 4 ^ i % 4 = q at hm
  show (if IntKind.i64.wrap (r.lo + (q : Int)) < r.hi then IntKind.i64.wrap (r.lo + (q : Int)) else r.hi) = _
  rw [w64_mid (by omega) (by omega)]
  split <;> omega
theorem en_run {α : Type} {l : List SnI} {R : List RdI} (hl : l.length ≤ 4) (hR : R.length = l.length) (h0 : ∀ k, k < l.length → 0 ≤ (R.getD k rdD).lo ∧ (R.getD k rdD).lo ≤ 900000000) (n : Nat) (K : Nat → List Int × Int × Unit → Option α) : afterL (iterL 300 (enF l R (n : Int)) ([], 0, ())) K = K 4 (enL R n l.length, (l.length : Int), ()) := by
  have hmx : l.length ≤ maxLen := by have : maxLen = 9223372036854775807 := rfl; omega
  refine (count_loop (f := enF l R (n : Int)) (fun i => (enL R n i, (i : Int), ())) l.length (fun i hi => ?_) (y := (enL R n l.length, (l.length : Int), ())) (b := 4) ?_ (by omega)).trans rfl
  · have hlen : (enL R n i).length = i := by unfold enL; rw [List.length_map, List.length_range]
    have e1 : enL R n (i + 1) = enL R n i ++ [min ((R.getD i rdD).lo + ((n / 4 ^ i % 4 : Nat) : Int)) (R.getD i rdD).hi] := by
      unfold enL; rw [List.range_succ, List.map_append]; rfl
    unfold enF rdG
    simp only [hR, lt_len hi, cond_true, in_len hi, if_pos, and_self, Int.toNat_natCast, wrap_next hi hmx]
    rw [if_neg (show ¬ IntKind.i64.wrap (2 * (i : Int)) < 0 by rw [w64_small (by omega) (by omega)]; omega), hlen, if_pos (by simp only [room, List.length_cons, List.length_nil]; omega), enD_eq (by omega) (h0 i hi).1 (h0 i hi).2, e1]
    rfl
  · unfold enF; simp only [not_lt_len, cond_false]
def fdM (l : List SnI) (R : List RdI) : Nat → ScM
  | 0 => []
  | n + 1 => scPut (dsS l (enL R n l.length)).1 (dsS l (enL R n l.length)).2.1 (fdM l R n)
theorem fd_run {α : Type} {l : List SnI} {R : List RdI} (hl : l.length ≤ 4) (hs : snsB l = true) (hR : R.length = l.length) (h0 : ∀ k, k < l.length → 0 ≤ (R.getD k rdD).lo ∧ (R.getD k rdD).lo ≤ 900000000) (K : Nat → Int × ScM × Unit → Option α) : afterL (iterL 300 (fdF 300 l R) (0, [], ())) K = K 2 (((256 : Nat) : Int), fdM l R 256, ()) := by
  refine (count_loop (f := fdF 300 l R) (fun n => ((n : Int), fdM l R n, ())) 256 (fun n hn => ?_) (y := (((256 : Nat) : Int), fdM l R 256, ())) (b := 2) ?_ (by omega))
  · unfold fdF
    simp only [decide_eq_true (show (n : Int) < 256 by omega), cond_true]
    rw [en_run hl hR h0]
    have hB : dsB l (enL R n l.length) = true := by
      unfold dsB enL
      rw [hs, List.length_map, List.length_range, decide_eq_true rfl]; rfl
    rw [if_pos rfl, hB, w64_small (by omega) (by omega)]
    rfl
  · unfold fdF
    have h256 : decide (((256 : Nat) : Int) < 256) = false := by decide
    simp only [h256, cond_false]
theorem fdM_mem (l : List SnI) (R : List RdI) (q : ScI) : ∀ n, q ∈ scKeys (fdM l R n) ↔ ∃ m, m < n ∧ q = dsS l (enL R m l.length)
  | 0 => by simp [fdM, scKeys]
  | n + 1 => by
    rw [fdM, scKeys_mem, fdM_mem l R q n]
    constructor
    · rintro (h | ⟨m, hm, h⟩)
      · exact ⟨n, Nat.lt_succ_self n, h⟩
      · exact ⟨m, by omega, h⟩
    · rintro ⟨m, hm, h⟩
      by_cases e : m = n
      · subst e; exact .inl h
      · exact .inr ⟨m, by omega, h⟩
theorem fdM_nodup (l : List SnI) (R : List RdI) : ∀ n, (scKeys (fdM l R n)).Nodup
  | 0 => List.nodup_nil
  | n + 1 => scKeys_nodup _ _ (fdM_nodup l R n)
theorem fdM_find (l : List SnI) (R : List RdI) (q : ScI) : ∀ n, q ∈ scKeys (fdM l R n) → (mpFind nmSh .bool q (fdM l R n)).getD false = true
  | 0, h => absurd h List.not_mem_nil
  | n + 1, h => by
    refine (congrArg (fun o => Option.getD o false) (mpFind_put (v := .bool) nm_eqb q ((dsS l (enL R n l.length)).1, (dsS l (enL R n l.length)).2.1, ()) true (fdM l R n))).trans ?_
    show Option.getD (bif nmSh.eqb q ((dsS l (enL R n l.length)).1, (dsS l (enL R n l.length)).2.1, ()) then some true else mpFind nmSh .bool q (fdM l R n)) false = true
    cases he : nmSh.eqb q ((dsS l (enL R n l.length)).1, (dsS l (enL R n l.length)).2.1, ())
    · rw [fdM, scKeys_mem] at h
      rcases h with h | h
      · have h2 : nmSh.eqb q ((dsS l (enL R n l.length)).1, (dsS l (enL R n l.length)).2.1, ()) = true := (nm_eqb _ _).2 h
        exact absurd (h2.symm.trans he) (by decide)
      · exact fdM_find l R q n h
    · rfl
/-! The check. -/
def chF {α : Type} (S : List ScI) (M : ScM) (R : Option α) (x : Int × Unit) : Option (LRes (Int × Unit) α) :=
  bif decide (x.1 < (S.length : Int)) then
    if 0 ≤ x.1 ∧ x.1 < (S.length : Int) then
      bif !(mpFind nmSh .bool ((S.getD x.1.toNat (0, 0, ())).1, (S.getD x.1.toNat (0, 0, ())).2.1, ()) M).getD false then finL R else
      bif decide (x.1 > 0) then
        if 0 ≤ IntKind.i64.wrap (x.1 - 1) ∧ IntKind.i64.wrap (x.1 - 1) < (S.length : Int) then
          bif decide ((S.getD (IntKind.i64.wrap (x.1 - 1)).toNat (0, 0, ())).1 > (S.getD x.1.toNat (0, 0, ())).1) then finL R else
          if 0 ≤ IntKind.i64.wrap (x.1 - 1) ∧ IntKind.i64.wrap (x.1 - 1) < (S.length : Int) then
            bif (S.getD (IntKind.i64.wrap (x.1 - 1)).toNat (0, 0, ())).1 == (S.getD x.1.toNat (0, 0, ())).1 then
              if 0 ≤ IntKind.i64.wrap (x.1 - 1) ∧ IntKind.i64.wrap (x.1 - 1) < (S.length : Int) then
                bif decide ((S.getD (IntKind.i64.wrap (x.1 - 1)).toNat (0, 0, ())).2.1 ≥ (S.getD x.1.toNat (0, 0, ())).2.1) then finL R else some (.cont (IntKind.i64.wrap (x.1 + 1), ()))
              else none
            else some (.cont (IntKind.i64.wrap (x.1 + 1), ()))
          else none
        else none
      else some (.cont (IntKind.i64.wrap (x.1 + 1), ()))
    else none
  else some (.brk 6 (x.1, ()))
theorem ch_run {α : Type} {S : List ScI} {M : ScM} (hS : S.Pairwise fun p q => scLt p q = true) (hl : S.length ≤ 40) (hM : ∀ q ∈ S, (mpFind nmSh .bool q M).getD false = true) (R : Option α) (K : Nat → Int × Unit → Option α) : afterL (iterL 300 (chF S M R) (0, ())) K = K 6 ((S.length : Int), ()) := by
  have hmx : S.length ≤ maxLen := by have : maxLen = 9223372036854775807 := rfl; omega
  refine (count_loop (f := chF S M R) (fun i => ((i : Int), ())) S.length (fun i hi => ?_) (y := ((S.length : Int), ())) (b := 6) ?_ (by omega)).trans rfl
  · have gi : ∀ j, j < S.length → S.getD j (0, 0, ()) ∈ S := fun j hj => by
      rw [List.getD_eq_getElem?_getD, List.getElem?_eq_getElem hj]; exact List.getElem_mem hj
    have hf : (mpFind nmSh .bool ((S.getD i (0, 0, ())).1, (S.getD i (0, 0, ())).2.1, ()) M).getD false = true := hM _ (gi i hi)
    unfold chF
    simp only [lt_len hi, cond_true, in_len hi, if_pos, and_self, Int.toNat_natCast, wrap_next hi hmx]
    rw [hf]
    by_cases h0 : i = 0
    · subst h0; rfl
    · have e1 : IntKind.i64.wrap ((i : Int) - 1) = ((i - 1 : Nat) : Int) := by rw [w64_small (by omega) (by omega)]; omega
      have hlt : scLt (S.getD (i - 1) (0, 0, ())) (S.getD i (0, 0, ())) = true := by
        have := List.pairwise_iff_getElem.1 hS (i - 1) i (by omega) hi (by omega)
        rw [List.getD_eq_getElem?_getD, List.getD_eq_getElem?_getD, List.getElem?_eq_getElem hi, List.getElem?_eq_getElem (show i - 1 < S.length by omega)]
        exact this
      rw [scLt_iff] at hlt
      have hin : 0 ≤ ((i - 1 : Nat) : Int) ∧ ((i - 1 : Nat) : Int) < (S.length : Int) := by omega
      have hgt : decide ((i : Int) > 0) = true := decide_eq_true (by omega)
      simp only [e1, hgt, hin, and_self, if_true, Int.toNat_natCast, Bool.not_true, cond_false, cond_true, decide_true]
      show (bif decide ((S.getD (i - 1) (0, 0, ())).1 > (S.getD i (0, 0, ())).1) then _ else bif (S.getD (i - 1) (0, 0, ())).1 == (S.getD i (0, 0, ())).1 then bif decide ((S.getD (i - 1) (0, 0, ())).2.1 ≥ (S.getD i (0, 0, ())).2.1) then _ else _ else _) = _
      rw [decide_eq_false (show ¬ (S.getD (i - 1) (0, 0, ())).1 > (S.getD i (0, 0, ())).1 by omega), cond_false]
      cases he : (S.getD (i - 1) (0, 0, ())).1 == (S.getD i (0, 0, ())).1
      · rfl
      · rw [beq_iff_eq] at he
        rw [decide_eq_false (show ¬ (S.getD (i - 1) (0, 0, ())).2.1 ≥ (S.getD i (0, 0, ())).2.1 by omega)]
        rfl
  · unfold chF; simp only [not_lt_len, cond_false]
end Go.Proofs.Ytjfopfhkfmknlaa

namespace Go.Proofs.Ytjfopfhkfmknlaa
open Go.RowKit
def laT {α : Type} (N : Nat) (l : List SnI) (a0 a1 a2 a3 w0 w1 w2 w3 base : Int) (k : AOut → Option α) : Option α :=
  afterL (iterL N (laF l a0 a1 a2 a3 w0 w1 w2 w3 base) ([], 0, ())) fun id y => if id = 0 then
    bif bdsE l y.1 != 0 then k (b1 false) else
    afterL (iterL N (fdF N l y.1) (0, [], ())) fun id z => if id = 2 then
      afterL (iterL N (chF (scR l y.1) z.2.1 (k (b1 false))) (0, ())) fun id _ => if id = 6 then k (b1 ((z.2.1.length : Int) == ((scR l y.1).length : Int))) else none
    else none
  else none
set_option maxRecDepth 100000 in
theorem mla_text (N n0 : Nat) (α : Type) (l : List SnI) (a0 a1 a2 a3 w0 w1 w2 w3 : Int) (far : Bool) (k : AOut → Option α) : evFn real tab ((twY fsW0 spM8).env real tab N (n0 + 12)) N Try.f3 α [.ro SnSh l, .agg [.int .u8 a0, .int .u8 a1, .int .u8 a2, .int .u8 a3], .agg [.int .u8 w0, .int .u8 w1, .int .u8 w2, .int .u8 w3], .bool far] k =
 bif decide ((l.length : Int) > 4) then k (b1 true) else bif snsE l != 0 then k (b1 true) else bif far then laT N l a0 a1 a2 a3 w0 w1 w2 w3 (IntKind.i64.wrap (129368064 - 4)) k else
 laT N l a0 a1 a2 a3 w0 w1 w2 w3 0 k := by kernel_rfl
end Go.Proofs.Ytjfopfhkfmknlaa

namespace Go.Proofs.Ytjfopfhkfmknlaa
open Go.RowKit
section
variable {base a0 a1 a2 a3 w0 w1 w2 w3 : Int}
def laA (base a0 a1 a2 a3 : Int) (i : Nat) : Int := base + at4 a0 a1 a2 a3 i % 8
def laB (base a0 a1 a2 a3 w0 w1 w2 w3 : Int) (i : Nat) : Int := base + at4 a0 a1 a2 a3 i % 8 + at4 w0 w1 w2 w3 i % 4
theorem laL_succ (n : Nat) : laL base a0 a1 a2 a3 w0 w1 w2 w3 (n + 1) = laL base a0 a1 a2 a3 w0 w1 w2 w3 n ++ [laR base (at4 a0 a1 a2 a3 n) (at4 w0 w1 w2 w3 n) n] := by
  unfold laL; rw [List.range_succ, List.map_append]; rfl
theorem la_lo (h0 : 0 ≤ base) (k : Nat) : ∀ n, bLo (laL base a0 a1 a2 a3 w0 w1 w2 w3 n) k = if k < n then laA base a0 a1 a2 a3 k else 0
  | 0 => rfl
  | n + 1 => by
    rw [laL_succ, bLo_add, la_lo h0 k n]
    show (if ((n : Int)) = (k : Int) then max _ (base + at4 a0 a1 a2 a3 n % 8) else _) = _
    by_cases e : n = k
    · subst e
      rw [if_pos rfl, if_neg (Nat.lt_irrefl n), if_pos (Nat.lt_succ_self n)]
      unfold laA; omega
    · rw [if_neg (by omega)]
      by_cases h : k < n
      · rw [if_pos h, if_pos (by omega)]
      · rw [if_neg h, if_neg (by omega)]
theorem la_hi (h1 : base ≤ 200000000) (k : Nat) : ∀ n, bHi (laL base a0 a1 a2 a3 w0 w1 w2 w3 n) k = if k < n then laB base a0 a1 a2 a3 w0 w1 w2 w3 k else 70368744177664
  | 0 => rfl
  | n + 1 => by
    rw [laL_succ, bHi_add, la_hi h1 k n]
    show (if ((n : Int)) = (k : Int) then min _ (base + at4 a0 a1 a2 a3 n % 8 + at4 w0 w1 w2 w3 n % 4) else _) = _
    by_cases e : n = k
    · subst e
      rw [if_pos rfl, if_neg (Nat.lt_irrefl n), if_pos (Nat.lt_succ_self n)]
      unfold laB; omega
    · rw [if_neg (by omega)]
      by_cases h : k < n
      · rw [if_pos h, if_pos (by omega)]
      · rw [if_neg h, if_neg (by omega)]
theorem laL_len (n : Nat) : (laL base a0 a1 a2 a3 w0 w1 w2 w3 n).length = n := by unfold laL; rw [List.length_map, List.length_range]
theorem laL_get {n k : Nat} (hk : k < n) : (laL base a0 a1 a2 a3 w0 w1 w2 w3 n).getD k rdD = laR base (at4 a0 a1 a2 a3 k) (at4 w0 w1 w2 w3 k) k := by
  unfold laL
  rw [List.getD_eq_getElem?_getD, List.getElem?_map, List.getElem?_range hk]; rfl
theorem la_bnd (h0 : 0 ≤ base) (h1 : base ≤ 200000000) (n : Nat) : bndM n (laL base a0 a1 a2 a3 w0 w1 w2 w3 n) = laL base a0 a1 a2 a3 w0 w1 w2 w3 n := by
  refine (bndM_ext n _ _ (laL_len n) fun k hk => ?_).symm
  rw [laL_get hk, la_lo h0, la_hi h1, if_pos hk, if_pos hk]
  rfl
theorem la_err {l : List SnI} (hs : snsB l = true) (hl : l.length ≤ 4) (h0 : 0 ≤ base) (h1 : base ≤ 200000000) : bdsE l (laL base a0 a1 a2 a3 w0 w1 w2 w3 l.length) = 0 := by
  unfold bdsE bndE
  rw [hs, laL_len, decide_eq_true (show l.length ≤ 256 by omega)]
  have e1 : nB (l.length : Int) = true := by
    unfold nB; rw [Bool.and_eq_true, decide_eq_true_eq, decide_eq_true_eq]; omega
  have e2 : rdsB (l.length : Int) (laL base a0 a1 a2 a3 w0 w1 w2 w3 l.length) = true := by
    unfold rdsB
    rw [Bool.not_eq_true', List.any_eq_false]
    intro r hr
    unfold laL at hr
    obtain ⟨i, hi, rfl⟩ := List.mem_map.1 hr
    have hi := List.mem_range.1 hi
    have : rgtR (l.length : Int) (laR base (at4 a0 a1 a2 a3 i) (at4 w0 w1 w2 w3 i) i) = true := by
      unfold rgtR laR
      simp only [Bool.and_eq_true, decide_eq_true_eq]
      omega
    rw [this]; decide
  have e3 : bndC (l.length : Int).toNat (laL base a0 a1 a2 a3 w0 w1 w2 w3 l.length) = false := by
    rw [Int.toNat_natCast]
    unfold bndC
    rw [List.any_eq_false]
    intro k hk
    have hk := List.mem_range.1 hk
    rw [la_lo h0, la_hi h1, if_pos hk, if_pos hk, decide_eq_true_eq]
    unfold laA laB; omega
  rw [e1, e2, e3]; rfl
theorem en_all {l : List SnI} (hl : l.length ≤ 4) {d : List Int} (hd : d.length = l.length) (hin : dIn l (laL base a0 a1 a2 a3 w0 w1 w2 w3 l.length) d) : ∃ n, n < 256 ∧ enL (laL base a0 a1 a2 a3 w0 w1 w2 w3 l.length) n l.length = d := by
  let e : Nat → Nat := fun k => if k < l.length then (d.getD k 0 - laA base a0 a1 a2 a3 k).toNat else 0
  have he : ∀ k, e k < 4 := fun k => by
    show (if k < l.length then (d.getD k 0 - laA base a0 a1 a2 a3 k).toNat else 0) < 4
    split
    · rename_i hk
      have := hin k hk
      rw [laL_get hk] at this
      have h1 : laA base a0 a1 a2 a3 k ≤ d.getD k 0 := this.1
      have h2 : d.getD k 0 ≤ laB base a0 a1 a2 a3 w0 w1 w2 w3 k := this.2
      unfold laA at *; unfold laB at h2
      omega
    · omega
  have h0 := he 0
  have h1 := he 1
  have h2 := he 2
  have h3 := he 3
  refine ⟨e 0 + 4 * e 1 + 16 * e 2 + 64 * e 3, by omega, ?_⟩
  have dig : ∀ k, k < 4 → (e 0 + 4 * e 1 + 16 * e 2 + 64 * e 3) / 4 ^ k % 4 = e k := fun k hk => by
    match k, hk with
    | 0, _ => show (e 0 + 4 * e 1 + 16 * e 2 + 64 * e 3) / 1 % 4 = e 0; omega
    | 1, _ => show (e 0 + 4 * e 1 + 16 * e 2 + 64 * e 3) / 4 % 4 = e 1; omega
    | 2, _ => show (e 0 + 4 * e 1 + 16 * e 2 + 64 * e 3) / 16 % 4 = e 2; omega
    | 3, _ => show (e 0 + 4 * e 1 + 16 * e 2 + 64 * e 3) / 64 % 4 = e 3; omega
  generalize e 0 + 4 * e 1 + 16 * e 2 + 64 * e 3 = m at dig
  refine List.ext_getElem (by unfold enL; rw [List.length_map, List.length_range, hd]) fun k hk1 hk2 => ?_
  have hk : k < l.length := by omega
  have e1 : (enL (laL base a0 a1 a2 a3 w0 w1 w2 w3 l.length) m l.length)[k] = min (((laL base a0 a1 a2 a3 w0 w1 w2 w3 l.length).getD k rdD).lo + ((m / 4 ^ k % 4 : Nat) : Int)) ((laL base a0 a1 a2 a3 w0 w1 w2 w3 l.length).getD k rdD).hi := by
    simp only [enL, List.getElem_map, List.getElem_range]
  rw [e1, dig k (by omega), laL_get hk]
  have := hin k hk
  rw [laL_get hk, List.getD_eq_getElem?_getD, List.getElem?_eq_getElem hk2, Option.getD_some] at this
  have hek : e k = (d.getD k 0 - laA base a0 a1 a2 a3 k).toNat := if_pos hk
  rw [List.getD_eq_getElem?_getD, List.getElem?_eq_getElem hk2, Option.getD_some] at hek
  rw [hek]
  have g1 : laA base a0 a1 a2 a3 k ≤ d[k] := this.1
  have g2 : d[k] ≤ laB base a0 a1 a2 a3 w0 w1 w2 w3 k := this.2
  show min (laA base a0 a1 a2 a3 k + _) (laB base a0 a1 a2 a3 w0 w1 w2 w3 k) = _
  omega
theorem en_in {l : List SnI} (m : Nat) : dIn l (laL base a0 a1 a2 a3 w0 w1 w2 w3 l.length) (enL (laL base a0 a1 a2 a3 w0 w1 w2 w3 l.length) m l.length) := fun k hk => by
  have e1 : (enL (laL base a0 a1 a2 a3 w0 w1 w2 w3 l.length) m l.length).getD k 0 = min (((laL base a0 a1 a2 a3 w0 w1 w2 w3 l.length).getD k rdD).lo + ((m / 4 ^ k % 4 : Nat) : Int)) ((laL base a0 a1 a2 a3 w0 w1 w2 w3 l.length).getD k rdD).hi := by
    unfold enL; rw [range_get _ _ hk]
  rw [e1, laL_get hk]
  have : (laR base (at4 a0 a1 a2 a3 k) (at4 w0 w1 w2 w3 k) k).lo ≤ (laR base (at4 a0 a1 a2 a3 k) (at4 w0 w1 w2 w3 k) k).hi := by
    show base + at4 a0 a1 a2 a3 k % 8 ≤ base + at4 a0 a1 a2 a3 k % 8 + at4 w0 w1 w2 w3 k % 4
    omega
  omega
theorem found_perm {l : List SnI} (hs : snsB l = true) (hl : l.length ≤ 4) (h0 : 0 ≤ base) (h1 : base ≤ 200000000) : (scKeys (fdM l (laL base a0 a1 a2 a3 w0 w1 w2 w3 l.length) 256)).Perm (scR l (laL base a0 a1 a2 a3 w0 w1 w2 w3 l.length)) := by
  have he := la_err (a0 := a0) (a1 := a1) (a2 := a2) (a3 := a3) (w0 := w0) (w1 := w1) (w2 := w2) (w3 := w3) hs hl h0 h1
  have e1 : scR l (laL base a0 a1 a2 a3 w0 w1 w2 w3 l.length) = scL (tmL l (laL base a0 a1 a2 a3 w0 w1 w2 w3 l.length) 0) (tmL l (laL base a0 a1 a2 a3 w0 w1 w2 w3 l.length) 1) := by
    unfold scR; rw [he, la_bnd h0 h1]; rfl
  rw [e1]
  have hb : ∀ k, k < l.length → ((laL base a0 a1 a2 a3 w0 w1 w2 w3 l.length).getD k rdD).lo ≤ ((laL base a0 a1 a2 a3 w0 w1 w2 w3 l.length).getD k rdD).hi := fun k hk => by
    rw [laL_get hk]
    show base + at4 a0 a1 a2 a3 k % 8 ≤ base + at4 a0 a1 a2 a3 k % 8 + at4 w0 w1 w2 w3 k % 4
    omega
  refine (List.perm_ext_iff_of_nodup (fdM_nodup _ _ _) ((scL_sorted _ _).imp fun {p q} h e => by subst e; rw [scLt_iff] at h; omega)).2 fun q => ?_
  rw [fdM_mem]
  constructor
  · rintro ⟨m, _, rfl⟩
    exact score_in (en_in m) (by omega)
  · intro hq
    obtain ⟨d, d1, d2, d3⟩ := score_of hb (by omega) hq
    obtain ⟨n, hn, e⟩ := en_all hl d1 d2
    exact ⟨n, hn, by rw [e, d3]⟩
end
end Go.Proofs.Ytjfopfhkfmknlaa

namespace Go.Proofs.Ytjfopfhkfmknlaa
theorem u8_in {n : Int} (h : (Lit.int .u8 n).wf = true) : 0 ≤ n ∧ n ≤ 255 := by
  simp [Lit.wf, IntKind.min, IntKind.max, IntKind.signed, IntKind.bits] at h
  omega
end Go.Proofs.Ytjfopfhkfmknlaa

namespace Go.Proofs.Ytjfopfhkfmknlaa
open Go.RowKit
theorem laT_true {l : List SnI} (hs : snsB l = true) (hl : l.length ≤ 4) {a0 a1 a2 a3 w0 w1 w2 w3 base : Int} (ha : ∀ i, 0 ≤ at4 a0 a1 a2 a3 i) (hw : ∀ i, 0 ≤ at4 w0 w1 w2 w3 i) (h0 : 0 ≤ base) (h1 : base ≤ 200000000) (k : AOut → Option AOut) : laT 300 l a0 a1 a2 a3 w0 w1 w2 w3 base k = k (b1 true) := by
  have he := la_err (a0 := a0) (a1 := a1) (a2 := a2) (a3 := a3) (w0 := w0) (w1 := w1) (w2 := w2) (w3 := w3) hs hl h0 h1
  have hp := found_perm (a0 := a0) (a1 := a1) (a2 := a2) (a3 := a3) (w0 := w0) (w1 := w1) (w2 := w2) (w3 := w3) hs hl h0 h1
  have e1 : scR l (laL base a0 a1 a2 a3 w0 w1 w2 w3 l.length) = scL (tmL l (laL base a0 a1 a2 a3 w0 w1 w2 w3 l.length) 0) (tmL l (laL base a0 a1 a2 a3 w0 w1 w2 w3 l.length) 1) := by
    unfold scR; rw [he, la_bnd h0 h1]; rfl
  have hsort : (scR l (laL base a0 a1 a2 a3 w0 w1 w2 w3 l.length)).Pairwise fun p q => scLt p q = true := by rw [e1]; exact scL_sorted _ _
  have hlen : (scR l (laL base a0 a1 a2 a3 w0 w1 w2 w3 l.length)).length ≤ 40 := by
    rw [e1]; have := scL_len (tmL l (laL base a0 a1 a2 a3 w0 w1 w2 w3 l.length) 0) (tmL l (laL base a0 a1 a2 a3 w0 w1 w2 w3 l.length) 1); omega
  have hM : ∀ q ∈ scR l (laL base a0 a1 a2 a3 w0 w1 w2 w3 l.length), (mpFind nmSh .bool q (fdM l (laL base a0 a1 a2 a3 w0 w1 w2 w3 l.length) 256)).getD false = true := fun q hq => fdM_find l _ q 256 (hp.mem_iff.2 hq)
  have hL := hp.length_eq
  unfold scKeys at hL
  rw [List.length_map] at hL
  unfold laT
  refine (la_run hl ha hw h0 h1 _).trans ?_
  rw [if_pos rfl]
  simp only [he]
  refine (fd_run hl hs (laL_len _) (fun k hk => ?_) _).trans ?_
  · rw [laL_get hk]
    show 0 ≤ base + at4 a0 a1 a2 a3 k % 8 ∧ base + at4 a0 a1 a2 a3 k % 8 ≤ 900000000
    omega
  clear hp
  generalize fdM l (laL base a0 a1 a2 a3 w0 w1 w2 w3 l.length) 256 = M at hM hL
  rw [if_pos rfl]
  refine (ch_run hsort hlen hM _ _).trans ?_
  rw [if_pos rfl]
  simp only
  rw [hL]
  have : ((((scR l (laL base a0 a1 a2 a3 w0 w1 w2 w3 l.length)).length : Int)) == ((scR l (laL base a0 a1 a2 a3 w0 w1 w2 w3 l.length)).length : Int)) = true := by simp
  rw [this]
def pos4 (a0 a1 a2 a3 : Int) : Bool := decide (0 ≤ a0) && (decide (0 ≤ a1) && (decide (0 ≤ a2) && decide (0 ≤ a3)))
theorem pos4_at {a0 a1 a2 a3 : Int} (h : pos4 a0 a1 a2 a3 = true) (i : Nat) : 0 ≤ at4 a0 a1 a2 a3 i := by
  unfold pos4 at h
  simp only [Bool.and_eq_true, decide_eq_true_eq] at h
  unfold at4
  match i with
  | 0 => exact h.1
  | 1 => exact h.2.1
  | 2 => exact h.2.2.1
  | 3 => exact h.2.2.2
  | i + 4 => exact Int.le_refl 0
theorem mla_true (l : List SnI) {a0 a1 a2 a3 w0 w1 w2 w3 : Int} (far : Bool) (ha : pos4 a0 a1 a2 a3 = true) (hw : pos4 w0 w1 w2 w3 = true) : evFn real tab ((twY fsW0 spM8).env real tab 300 12) 300 Try.f3 AOut [.ro SnSh l, .agg [.int .u8 a0, .int .u8 a1, .int .u8 a2, .int .u8 a3], .agg [.int .u8 w0, .int .u8 w1, .int .u8 w2, .int .u8 w3], .bool far] some = some (b1 true) := by
  refine (mla_text 300 0 AOut l a0 a1 a2 a3 w0 w1 w2 w3 far some).trans ?_
  by_cases hl : l.length ≤ 4
  case neg => rw [decide_eq_true (show (l.length : Int) > 4 by omega)]; rfl
  rw [decide_eq_false (show ¬ (l.length : Int) > 4 by omega), cond_false]
  cases hs : snsB l
  · have : snsE l = 2 := by unfold snsE; rw [hs]; rfl
    rw [this]; rfl
  · have : snsE l = 0 := by unfold snsE; rw [hs]; rfl
    rw [this]
    have e : IntKind.i64.wrap (129368064 - 4) = 129368060 := by rw [IntKind.wrap_i64]; decide
    show (bif far then laT 300 l a0 a1 a2 a3 w0 w1 w2 w3 (IntKind.i64.wrap (129368064 - 4)) some else laT 300 l a0 a1 a2 a3 w0 w1 w2 w3 0 some) = _
    rw [e]
    cases far
    · exact laT_true hs hl (pos4_at ha) (pos4_at hw) (by decide) (by decide) some
    · exact laT_true hs hl (pos4_at ha) (pos4_at hw) (by decide) (by decide) some
def mlaF : List AVal → Option AOut
  | [.ro (.recd (.cons (.int .i64) (.cons (.int .i64) (.cons (.recd (.cons (.int .i64) (.cons (.int .i64) .nil))) .nil)))) _, .agg [.int .u8 a0, .int .u8 a1, .int .u8 a2, .int .u8 a3], .agg [.int .u8 w0, .int .u8 w1, .int .u8 w2, .int .u8 w3], .bool _] => bif pos4 a0 a1 a2 a3 && pos4 w0 w1 w2 w3 then some (b1 true) else none
  | _ => none
theorem mla_ok : FspOk Try.prog 3 (toFsp mlaF) := tower_Y fsW0_ok spM8_ok ⟨Try.func3, fun _ _ => by kernel_rfl⟩ (toFsp_nat _) fun args out hSm hq => by
  have h := toFsp_some hq
  unfold mlaF at h
  split at h
  · rename_i l a0 a1 a2 a3 w0 w1 w2 w3 far
    cases hp : pos4 a0 a1 a2 a3 && pos4 w0 w1 w2 w3
    · rw [hp] at h; cases h
    · rw [hp] at h
      rw [Bool.and_eq_true] at hp
      exact ⟨300, 12, (mla_true l far hp.1 hp.2).trans h⟩
  · cases h
abbrev A4Sh : Sh := .recd (.cons (.int .u8) (.cons (.int .u8) (.cons (.int .u8) (.cons (.int .u8) .nil))))
theorem pos4_of {a b c d : Int} (h : (Lit.int .u8 a).wf = true ∧ (Lit.int .u8 b).wf = true ∧ (Lit.int .u8 c).wf = true ∧ (Lit.int .u8 d).wf = true ∧ True) : pos4 a b c d = true := by
  unfold pos4
  rw [decide_eq_true (u8_in h.1).1, decide_eq_true (u8_in h.2.1).1, decide_eq_true (u8_in h.2.2.1).1, decide_eq_true (u8_in h.2.2.2.1).1]; rfl
theorem mla_wf (ys : (Shs.cons (.sl SnSh) (.cons A4Sh (.cons A4Sh (.cons .bool .nil)))).ty) (h : Wfs (Shs.cons (.sl SnSh) (.cons A4Sh (.cons A4Sh (.cons .bool .nil)))) ys) : mlaF ((Shs.cons (.sl SnSh) (.cons A4Sh (.cons A4Sh (.cons .bool .nil)))).vals ys) = some (b1 true) := by
  obtain ⟨l, ⟨a0, a1, a2, a3, _⟩, ⟨w0, w1, w2, w3, _⟩, far, _⟩ := ys
  have h1 : pos4 a0 a1 a2 a3 = true := pos4_of h.2.1
  have h2 : pos4 w0 w1 w2 w3 = true := pos4_of h.2.2.1
  show (bif pos4 a0 a1 a2 a3 && pos4 w0 w1 w2 w3 then some (b1 true) else none) = some (b1 true)
  rw [h1, h2]; rfl
end Go.Proofs.Ytjfopfhkfmknlaa
