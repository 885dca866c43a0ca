/- Parts of the proof, in build order. -/
import Derived.Test.YteaadpgpihggeaaGreatM8
namespace Go.Proofs.YteaadpgpihggeaaGreat
open Go.RowKit
def rrestS : Fsp := fun _ args k => match args with
  | [.agg [.int .i64 _, .int .i64 _, .int .i64 u, .int .i64 v, .int .i64 _]] => k (b1 (u == 0 && v == 0))
  | _ => none
theorem rrest_text (N n0 : Nat) (α : Type) (x y u v s : Int) (k : AOut → Option α) : evFn real tab ((twY fnRd spL).env real tab N (n0 + 8)) N Tryz.f39 α [.agg [.int .i64 x, .int .i64 y, .int .i64 u, .int .i64 v, .int .i64 s]] k =
 bif u == 0 then k (b1 (v == 0)) else k (b1 false) := by kernel_rfl
theorem rrestS_ok : FspOk Tryz.prog 39 rrestS := tower_Y fnRd_ok spL_ok ⟨Tryz.func39, fun _ _ => by kernel_rfl⟩ (by intro α args k; unfold rrestS; split <;> rfl) fun args out hs h => by
  unfold rrestS at h
  split at h
  · rename_i x y u v s
    refine ⟨1, 8, (rrest_text 1 0 AOut x y u v s some).trans (Eq.trans ?_ h)⟩
    cases (u == 0) <;> rfl
  · cases h
noncomputable def fnC0 : FuncId → Option Fsp := fun g =>
  if g = 82 then some rbodyS else
  if g = 39 then some rrestS else
  fnRd g
theorem fnC0_ok : FsOk fnC0 :=
  fs_cons rbodyS_ok <|
  fs_cons rrestS_ok <|
  fnRd_ok
/-! Lists that are the same. -/
def sameX {X : Type} (eq : X → X → Bool) (d : X) (l l' : List X) : Bool := bif (l.length : Int) != (l'.length : Int) then false else !((List.range l.length).any fun i => !(eq (l.getD i d) (l'.getD i d)))
theorem sameX_refl {X : Type} {eq : X → X → Bool} {d : X} (h : ∀ x, eq x x = true) (l : List X) : sameX eq d l l = true := by
  unfold sameX
  have h1 : ((l.length : Int) != (l.length : Int)) = false := by simp
  rw [h1, cond_false, Bool.not_eq_true', List.any_eq_false]
  intro i _
  simp [h]
def saF {α X : Type} (eq : X → X → Bool) (d : X) (l l' : List X) (R : Option α) (x : Int × Unit) : Option (LRes (Int × Unit) α) :=
  bif decide (x.1 < (l.length : Int)) then
    if 0 ≤ x.1 ∧ x.1 < (l.length : Int) then
      if 0 ≤ x.1 ∧ x.1 < (l'.length : Int) then
        bif !(eq (l.getD x.1.toNat d) (l'.getD x.1.toNat d)) then finL R else some (.cont (IntKind.i64.wrap (x.1 + 1), ()))
      else none
    else none
  else some (.brk 0 (x.1, ()))
theorem sa_loop {α X : Type} (eq : X → X → Bool) (d : X) (l l' : List X) (hl : l.length ≤ maxLen) (R : Bool → Option α) :
    (bif (l.length : Int) != (l'.length : Int) then R false else afterL (iterL (l.length + 1) (saF eq d l l' (R false)) (0, ())) fun id _ => if id = 0 then R true else none) = R (sameX eq d l l') := by
  unfold sameX
  cases h1 : ((l.length : Int) != (l'.length : Int))
  · have hl' : l.length = l'.length := by have := bne_eq_false_iff_eq.1 h1; omega
    simp only [cond_false]
    refine (any_loop (f := saF eq d l l' (R false)) (fun i : Nat => ((i : Int), ())) l.length (fun i => !(eq (l.getD i d) (l'.getD i d))) (R false) (fun i hi => ?_) (y := ((l.length : Int), ())) (b := 0) ?_).trans ?_
    · unfold saF
      simp only [lt_len hi, cond_true, in_len hi, in_len (show i < l'.length by omega), if_pos, and_self, decide_true, Int.toNat_natCast, wrap_next hi hl]
    · unfold saF
      simp only [not_lt_len, cond_false]
    · cases (List.range l.length).any fun i => !(eq (l.getD i d) (l'.getD i d)) <;> rfl
  · rfl
def bdEq (a b : BdI) : Bool := a.1 == b.1 && (a.2.1 == b.2.1 && (((a.x == b.x && (a.y == b.y && true)) && ((a.u == b.u && (a.v == b.v && true)) && (a.s == b.s && true))) && (a.o == b.o && true)))
def stEq (a b : StI) : Bool := a.1 == b.1 && (a.2.1 == b.2.1 && ((a.2.2.1.1 == b.2.2.1.1 && (a.2.2.1.2.1 == b.2.2.1.2.1 && true)) && true))
theorem bdEq_refl (a : BdI) : bdEq a a = true := by simp [bdEq]
theorem stEq_refl (a : StI) : stEq a a = true := by simp [stEq]
set_option maxRecDepth 100000 in
theorem rplacedx_text (N n0 : Nat) (α : Type) (l l' : List StI) (k : AOut → Option α) : evFn real tab ((twY fnC0 spL).env real tab N (n0 + 8)) N Tryz.f22 α [.ro (.recd (.cons (.int .i64) (.cons (.int .i64) (.cons (.recd (.cons (.int .i64) (.cons (.int .i64) .nil))) .nil)))) l, .ro (.recd (.cons (.int .i64) (.cons (.int .i64) (.cons (.recd (.cons (.int .i64) (.cons (.int .i64) .nil))) .nil)))) l'] k =
 bif (l.length : Int) != (l'.length : Int) then k (b1 false) else afterL (iterL N (saF stEq stD l l' (k (b1 false))) (0, ())) fun id _ => if id = 0 then k (b1 true) else none := by
 kernel_rfl
set_option maxRecDepth 100000 in
theorem rsame5x_text (N n0 : Nat) (α : Type) (l l' : List BdI) (k : AOut → Option α) : evFn real tab ((twY fnC0 spL).env real tab N (n0 + 8)) N Tryz.f23 α [.ro (.recd (.cons (.int .i64) (.cons (.int .i64) (.cons (.recd (.cons (.recd (.cons (.int .i64) (.cons (.int .i64) .nil))) (.cons (.recd (.cons (.int .i64) (.cons (.int .i64) .nil))) (.cons (.int .i64) .nil)))) (.cons .bool .nil))))) l, .ro (.recd (.cons (.int .i64) (.cons (.int .i64) (.cons (.recd (.cons (.recd (.cons (.int .i64) (.cons (.int .i64) .nil))) (.cons (.recd (.cons (.int .i64) (.cons (.int .i64) .nil))) (.cons (.int .i64) .nil)))) (.cons .bool .nil))))) l'] k =
 bif (l.length : Int) != (l'.length : Int) then k (b1 false) else afterL (iterL N (saF bdEq bdD l l' (k (b1 false))) (0, ())) fun id _ => if id = 0 then k (b1 true) else none := by
 kernel_rfl
theorem rplacedx_fin (l l' : List StI) (hs : ∀ qSm ∈ ([.ro (.recd (.cons (.int .i64) (.cons (.int .i64) (.cons (.recd (.cons (.int .i64) (.cons (.int .i64) .nil))) .nil)))) l, .ro (.recd (.cons (.int .i64) (.cons (.int .i64) (.cons (.recd (.cons (.int .i64) (.cons (.int .i64) .nil))) .nil)))) l'] : List AVal), Sm qSm) : ∃ N n, ∀ α (k : AOut → Option α), evFn real tab ((twY fnC0 spL).env real tab N n) N Tryz.f22 α [.ro (.recd (.cons (.int .i64) (.cons (.int .i64) (.cons (.recd (.cons (.int .i64) (.cons (.int .i64) .nil))) .nil)))) l, .ro (.recd (.cons (.int .i64) (.cons (.int .i64) (.cons (.recd (.cons (.int .i64) (.cons (.int .i64) .nil))) .nil)))) l'] k = k (b1 (sameX stEq stD l l')) := by
  exact ⟨l.length + 1, 8, fun α k => (rplacedx_text _ 0 α l l' k).trans (sa_loop stEq stD l l' (hs (.ro (.recd (.cons (.int .i64) (.cons (.int .i64) (.cons (.recd (.cons (.int .i64) (.cons (.int .i64) .nil))) .nil)))) l) (List.mem_cons_self ..)).len fun b => k (b1 b))⟩
noncomputable def rplacedxS : Fsp := fun _ args k => match args with
  | [.ro (.recd (.cons (.int .i64) (.cons (.int .i64) (.cons (.recd (.cons (.int .i64) (.cons (.int .i64) .nil))) .nil)))) l, .ro (.recd (.cons (.int .i64) (.cons (.int .i64) (.cons (.recd (.cons (.int .i64) (.cons (.int .i64) .nil))) .nil)))) l'] => k (b1 (sameX stEq stD l l'))
  | _ => none
theorem rplacedxS_ok : FspOk Tryz.prog 22 rplacedxS := tower_Y fnC0_ok spL_ok ⟨Tryz.func22, fun _ _ => by kernel_rfl⟩ (by intro α args k; unfold rplacedxS; split <;> rfl) fun args out hSm hEq => by
  unfold rplacedxS at hEq
  split at hEq
  · rename_i l l'
    obtain ⟨N, n, e⟩ := rplacedx_fin l l' hSm
    exact ⟨N, n, (e AOut some).trans hEq⟩
  · cases hEq
theorem rsame5x_fin (l l' : List BdI) (hs : ∀ qSm ∈ ([.ro (.recd (.cons (.int .i64) (.cons (.int .i64) (.cons (.recd (.cons (.recd (.cons (.int .i64) (.cons (.int .i64) .nil))) (.cons (.recd (.cons (.int .i64) (.cons (.int .i64) .nil))) (.cons (.int .i64) .nil)))) (.cons .bool .nil))))) l, .ro (.recd (.cons (.int .i64) (.cons (.int .i64) (.cons (.recd (.cons (.recd (.cons (.int .i64) (.cons (.int .i64) .nil))) (.cons (.recd (.cons (.int .i64) (.cons (.int .i64) .nil))) (.cons (.int .i64) .nil)))) (.cons .bool .nil))))) l'] : List AVal), Sm qSm) : ∃ N n, ∀ α (k : AOut → Option α), evFn real tab ((twY fnC0 spL).env real tab N n) N Tryz.f23 α [.ro (.recd (.cons (.int .i64) (.cons (.int .i64) (.cons (.recd (.cons (.recd (.cons (.int .i64) (.cons (.int .i64) .nil))) (.cons (.recd (.cons (.int .i64) (.cons (.int .i64) .nil))) (.cons (.int .i64) .nil)))) (.cons .bool .nil))))) l, .ro (.recd (.cons (.int .i64) (.cons (.int .i64) (.cons (.recd (.cons (.recd (.cons (.int .i64) (.cons (.int .i64) .nil))) (.cons (.recd (.cons (.int .i64) (.cons (.int .i64) .nil))) (.cons (.int .i64) .nil)))) (.cons .bool .nil))))) l'] k = k (b1 (sameX bdEq bdD l l')) := by
  exact ⟨l.length + 1, 8, fun α k => (rsame5x_text _ 0 α l l' k).trans (sa_loop bdEq bdD l l' (hs (.ro (.recd (.cons (.int .i64) (.cons (.int .i64) (.cons (.recd (.cons (.recd (.cons (.int .i64) (.cons (.int .i64) .nil))) (.cons (.recd (.cons (.int .i64) (.cons (.int .i64) .nil))) (.cons (.int .i64) .nil)))) (.cons .bool .nil))))) l) (List.mem_cons_self ..)).len fun b => k (b1 b))⟩
noncomputable def rsame5xS : Fsp := fun _ args k => match args with
  | [.ro (.recd (.cons (.int .i64) (.cons (.int .i64) (.cons (.recd (.cons (.recd (.cons (.int .i64) (.cons (.int .i64) .nil))) (.cons (.recd (.cons (.int .i64) (.cons (.int .i64) .nil))) (.cons (.int .i64) .nil)))) (.cons .bool .nil))))) l, .ro (.recd (.cons (.int .i64) (.cons (.int .i64) (.cons (.recd (.cons (.recd (.cons (.int .i64) (.cons (.int .i64) .nil))) (.cons (.recd (.cons (.int .i64) (.cons (.int .i64) .nil))) (.cons (.int .i64) .nil)))) (.cons .bool .nil))))) l'] => k (b1 (sameX bdEq bdD l l'))
  | _ => none
theorem rsame5xS_ok : FspOk Tryz.prog 23 rsame5xS := tower_Y fnC0_ok spL_ok ⟨Tryz.func23, fun _ _ => by kernel_rfl⟩ (by intro α args k; unfold rsame5xS; split <;> rfl) fun args out hSm hEq => by
  unfold rsame5xS at hEq
  split at hEq
  · rename_i l l'
    obtain ⟨N, n, e⟩ := rsame5x_fin l l' hSm
    exact ⟨N, n, (e AOut some).trans hEq⟩
  · cases hEq
/-! still -/
def rsl {α : Type} (l : List BdI) (R : Option α) (x : Int × Unit) : Option (LRes (Int × Unit) α) :=
  bif decide (x.1 < (l.length : Int)) then
    if 0 ≤ x.1 ∧ x.1 < (l.length : Int) then
      if 0 ≤ x.1 ∧ x.1 < (l.length : Int) then
        bif !(l.getD x.1.toNat bdD).o then
          bif !((l.getD x.1.toNat bdD).u == 0 && (l.getD x.1.toNat bdD).v == 0) then finL R
          else some (.cont (IntKind.i64.wrap (x.1 + 1), ()))
        else some (.cont (IntKind.i64.wrap (x.1 + 1), ()))
      else none
    else none
  else some (.brk 0 (x.1, ()))
set_option maxRecDepth 100000 in
theorem rstillx_text (N n0 : Nat) (α : Type) (l : List BdI) (k : AOut → Option α) : evFn real tab ((twY fnC0 spL).env real tab N (n0 + 8)) N Tryz.f49 α [.ro (.recd (.cons (.int .i64) (.cons (.int .i64) (.cons (.recd (.cons (.recd (.cons (.int .i64) (.cons (.int .i64) .nil))) (.cons (.recd (.cons (.int .i64) (.cons (.int .i64) .nil))) (.cons (.int .i64) .nil)))) (.cons .bool .nil))))) l] k =
 afterL (iterL N (rsl l (k (b1 false))) (0, ())) fun id _ => if id = 0 then k (b1 true) else none := by kernel_rfl
theorem rstillx_fin (l : List BdI) (hs : ∀ qSm ∈ ([.ro (.recd (.cons (.int .i64) (.cons (.int .i64) (.cons (.recd (.cons (.recd (.cons (.int .i64) (.cons (.int .i64) .nil))) (.cons (.recd (.cons (.int .i64) (.cons (.int .i64) .nil))) (.cons (.int .i64) .nil)))) (.cons .bool .nil))))) l] : List AVal), Sm qSm) : ∃ N n, ∀ α (k : AOut → Option α), evFn real tab ((twY fnC0 spL).env real tab N n) N Tryz.f49 α [.ro (.recd (.cons (.int .i64) (.cons (.int .i64) (.cons (.recd (.cons (.recd (.cons (.int .i64) (.cons (.int .i64) .nil))) (.cons (.recd (.cons (.int .i64) (.cons (.int .i64) .nil))) (.cons (.int .i64) .nil)))) (.cons .bool .nil))))) l] k = k (b1 (!(l.any mvg))) := by
  have hl : l.length ≤ maxLen := (hs (.ro (.recd (.cons (.int .i64) (.cons (.int .i64) (.cons (.recd (.cons (.recd (.cons (.int .i64) (.cons (.int .i64) .nil))) (.cons (.recd (.cons (.int .i64) (.cons (.int .i64) .nil))) (.cons (.int .i64) .nil)))) (.cons .bool .nil))))) l) (List.mem_cons_self ..)).len
  refine ⟨l.length + 1, 8, fun α k => (rstillx_text _ 0 α l k).trans ?_⟩
  refine (any_loop (f := rsl l (k (b1 false))) (fun i : Nat => ((i : Int), ())) l.length (fun i => mvg (l.getD i bdD)) (k (b1 false)) (fun i hi => ?_) (y := ((l.length : Int), ())) (b := 0) ?_).trans ?_
  · unfold rsl
    simp only [lt_len hi, cond_true, in_len hi, if_pos, and_self, decide_true, Int.toNat_natCast, wrap_next hi hl, mvg, Bool.and_true]
    cases (l.getD i bdD).o <;> cases ((l.getD i bdD).u == 0 && (l.getD i bdD).v == 0) <;> rfl
  · unfold rsl
    simp only [not_lt_len, cond_false]
  · rw [any_rangeX]
    cases l.any mvg <;> rfl
noncomputable def rstillxS : Fsp := fun _ args k => match args with
  | [.ro (.recd (.cons (.int .i64) (.cons (.int .i64) (.cons (.recd (.cons (.recd (.cons (.int .i64) (.cons (.int .i64) .nil))) (.cons (.recd (.cons (.int .i64) (.cons (.int .i64) .nil))) (.cons (.int .i64) .nil)))) (.cons .bool .nil))))) l] => k (b1 (!(l.any mvg)))
  | _ => none
theorem rstillxS_ok : FspOk Tryz.prog 49 rstillxS := tower_Y fnC0_ok spL_ok ⟨Tryz.func49, fun _ _ => by kernel_rfl⟩ (by intro α args k; unfold rstillxS; split <;> rfl) fun args out hSm hEq => by
  unfold rstillxS at hEq
  split at hEq
  · rename_i l
    obtain ⟨N, n, e⟩ := rstillx_fin l hSm
    exact ⟨N, n, (e AOut some).trans hEq⟩
  · cases hEq
/-! Scene -/
def rsIn {α : Type} (l : List BdI) (R : Option α) (i : Int) (x : Int × Unit) : Option (LRes (Int × Unit) α) :=
  bif decide (x.1 < i) then
    if 0 ≤ x.1 ∧ x.1 < (l.length : Int) then
      if 0 ≤ i ∧ i < (l.length : Int) then
        bif (l.getD x.1.toNat bdD).1 == (l.getD i.toNat bdD).1 then
          if 0 ≤ x.1 ∧ x.1 < (l.length : Int) then
            if 0 ≤ i ∧ i < (l.length : Int) then
              bif (l.getD x.1.toNat bdD).2.1 == (l.getD i.toNat bdD).2.1 then finL R else some (.cont (IntKind.i64.wrap (x.1 + 1), ()))
            else none
          else none
        else some (.cont (IntKind.i64.wrap (x.1 + 1), ()))
      else none
    else none
  else some (.brk 2 (x.1, ()))
def rsLp {α : Type} (N : Nat) (l : List BdI) (R : Option α) (x : Int × Unit) : Option (LRes (Int × Unit) α) :=
  afterL (iterL N (rsIn l (finL (σ := Int × Unit) R) x.1) (0, ())) fun id _ => if id = 2 then some (.cont (IntKind.i64.wrap (x.1 + 1), ())) else none
def rscF {α : Type} (N : Nat) (l : List BdI) (R : Option α) (x : Int × Unit) : Option (LRes (Int × Unit) α) :=
  bif decide (x.1 < (l.length : Int)) then
    if 0 ≤ x.1 ∧ x.1 < (l.length : Int) then
      if 0 ≤ x.1 ∧ x.1 < (l.length : Int) then
        bif !rbodB (l.getD x.1.toNat bdD).1 (l.getD x.1.toNat bdD).2.1 (l.getD x.1.toNat bdD).x (l.getD x.1.toNat bdD).y (l.getD x.1.toNat bdD).u (l.getD x.1.toNat bdD).v (l.getD x.1.toNat bdD).s then finL R
        else if 0 ≤ x.1 ∧ x.1 < (l.length : Int) then
          bif (l.getD x.1.toNat bdD).o then
            bif !((l.getD x.1.toNat bdD).u == 0 && (l.getD x.1.toNat bdD).v == 0) then finL R
            else if 0 ≤ x.1 ∧ x.1 < (l.length : Int) then
              bif (l.getD x.1.toNat bdD).s != 0 then finL R else rsLp N l R x
            else none
          else rsLp N l R x
        else none
      else none
    else none
  else some (.brk 0 (x.1, ()))
set_option maxRecDepth 100000 in
theorem rscn_text (N n0 : Nat) (α : Type) (l : List BdI) (k : AOut → Option α) : evFn real tab ((twY fnC0 spL).env real tab N (n0 + 8)) N Tryz.f46 α [.ro (.recd (.cons (.int .i64) (.cons (.int .i64) (.cons (.recd (.cons (.recd (.cons (.int .i64) (.cons (.int .i64) .nil))) (.cons (.recd (.cons (.int .i64) (.cons (.int .i64) .nil))) (.cons (.int .i64) .nil)))) (.cons .bool .nil))))) l] k =
 bif decide ((l.length : Int) > 16) then k (b1 false) else afterL (iterL N (rscF N l (k (b1 false))) (0, ())) fun id _ => if id = 0 then k (b1 true) else none := by kernel_rfl
def nmB (a b : BdI) : Bool := a.1 == b.1 && a.2.1 == b.2.1
def badR (l : List BdI) (i : Nat) : Bool := !bdOk (l.getD i bdD) || (((l.getD i bdD).o && (!((l.getD i bdD).u == 0 && (l.getD i bdD).v == 0) || (l.getD i bdD).s != 0)) || (List.range i).any fun k => nmB (l.getD k bdD) (l.getD i bdD))
theorem rsLp_eq {α : Type} (l : List BdI) (R : Option α) {i : Nat} (hi : i < l.length) (hl : l.length ≤ maxLen) {N : Nat} (hN : i + 1 ≤ N) :
    rsLp N l R ((i : Int), ()) = bif (List.range i).any fun k => nmB (l.getD k bdD) (l.getD i bdD) then finL R else some (.cont (((i + 1 : Nat) : Int), ())) := by
  unfold rsLp
  rw [wrap_next hi hl]
  have key := any_loop' (N := N) (f := rsIn l (finL (σ := Int × Unit) R) (i : Int)) (K := fun id (_ : Int × Unit) => if id = 2 then some (LRes.cont (α := α) (((i + 1 : Nat) : Int), ())) else none) (fun j : Nat => ((j : Int), ())) i (fun k => nmB (l.getD k bdD) (l.getD i bdD)) (finL R) (fun j hj => ?_) (y := ((i : Int), ())) (b := 2) ?_ (by omega)
  · refine key.trans ?_
    cases (List.range i).any fun k => nmB (l.getD k bdD) (l.getD i bdD) <;> rfl
  · unfold rsIn
    simp only [lt_len hj, cond_true, in_len hi, in_len (show j < l.length by omega), if_pos, and_self, decide_true, Int.toNat_natCast, wrap_next (show j < l.length by omega) hl, nmB]
    cases ((l.getD j bdD).1 == (l.getD i bdD).1) <;> cases ((l.getD j bdD).2.1 == (l.getD i bdD).2.1) <;> rfl
  · unfold rsIn
    simp only [not_lt_len, cond_false]
theorem badR_is : ∀ (r pre l : List BdI), l = pre ++ r → Ck.bodsOk (pre.map bdC) (r.map bdC) = !((List.range r.length).any fun j => badR l (pre.length + j))
  | [], pre, l, _ => rfl
  | b :: r, pre, l, e => by
    have hb : l.getD pre.length bdD = b := by rw [e, List.getD_eq_getElem?_getD, List.getElem?_append_right (Nat.le_refl _), Nat.sub_self]; rfl
    have ih := badR_is r (pre ++ [b]) l (by rw [e, List.append_assoc]; rfl)
    have h1 : (bdC b).bad (pre.map bdC) = badR l pre.length := by
      have hn : decide ((bdC b).name ∈ (pre.map bdC).map Ck.Bod.name) = (List.range pre.length).any fun k => nmB (l.getD k bdD) b := by
        rw [Bool.eq_iff_iff, decide_eq_true_eq, List.any_eq_true, List.map_map, List.mem_map]
        constructor
        · rintro ⟨c, hc, he⟩
          obtain ⟨k, hk, rfl⟩ := List.mem_iff_getElem.1 hc
          refine ⟨k, List.mem_range.2 hk, ?_⟩
          have : l.getD k bdD = pre[k] := by rw [e, List.getD_eq_getElem?_getD, List.getElem?_append_left hk, List.getElem?_eq_getElem hk]; rfl
          rw [this]
          have he : (pre[k].1, pre[k].2.1) = (b.1, b.2.1) := he
          simp only [Prod.mk.injEq] at he
          simp only [nmB, he.1, he.2, BEq.rfl, Bool.and_self]
        · rintro ⟨k, hk, he⟩
          have hk := List.mem_range.1 hk
          have : l.getD k bdD = pre[k] := by rw [e, List.getD_eq_getElem?_getD, List.getElem?_append_left hk, List.getElem?_eq_getElem hk]; rfl
          rw [this] at he
          simp only [nmB, Bool.and_eq_true, beq_iff_eq] at he
          exact ⟨pre[k], List.getElem_mem hk, Prod.ext he.1 he.2⟩
      show (!bdOk b || (decide ((bdC b).name ∈ (pre.map bdC).map Ck.Bod.name) || (b.o && (!(b.u == 0 && b.v == 0) || b.s != 0)))) = _
      unfold badR
      rw [hb, hn]
      cases bdOk b <;> cases (b.o && (!(b.u == 0 && b.v == 0) || b.s != 0)) <;> simp
    rw [List.map_cons, Ck.bodsOk, h1, show pre.map bdC ++ [bdC b] = (pre ++ [b]).map bdC by rw [List.map_append]; rfl, ih, List.length_cons, List.range_succ_eq_map, List.any_cons, List.any_map, List.length_append, List.length_singleton]
    have : (fun j => badR l (pre.length + 1 + j)) = (fun j => badR l (pre.length + j)) ∘ Nat.succ := by
      funext j; show badR l (pre.length + 1 + j) = badR l (pre.length + (j + 1)); congr 1; omega
    rw [this, Nat.add_zero, Bool.not_or]
theorem sce_badR (l : List BdI) : sceB l = (decide (l.length ≤ 16) && !((List.range l.length).any (badR l))) := by
  unfold sceB Ck.sceneB
  have := badR_is l [] l rfl
  rw [List.map_nil] at this
  rw [this, List.length_map]
  congr 3
  funext j
  rw [List.length_nil, Nat.zero_add]
theorem rscn_fin (l : List BdI) (hs : ∀ qSm ∈ ([.ro (.recd (.cons (.int .i64) (.cons (.int .i64) (.cons (.recd (.cons (.recd (.cons (.int .i64) (.cons (.int .i64) .nil))) (.cons (.recd (.cons (.int .i64) (.cons (.int .i64) .nil))) (.cons (.int .i64) .nil)))) (.cons .bool .nil))))) l] : List AVal), Sm qSm) : ∃ N n, ∀ α (k : AOut → Option α), evFn real tab ((twY fnC0 spL).env real tab N n) N Tryz.f46 α [.ro (.recd (.cons (.int .i64) (.cons (.int .i64) (.cons (.recd (.cons (.recd (.cons (.int .i64) (.cons (.int .i64) .nil))) (.cons (.recd (.cons (.int .i64) (.cons (.int .i64) .nil))) (.cons (.int .i64) .nil)))) (.cons .bool .nil))))) l] k = k (b1 (sceB l)) := by
  have hl : l.length ≤ maxLen := (hs (.ro (.recd (.cons (.int .i64) (.cons (.int .i64) (.cons (.recd (.cons (.recd (.cons (.int .i64) (.cons (.int .i64) .nil))) (.cons (.recd (.cons (.int .i64) (.cons (.int .i64) .nil))) (.cons (.int .i64) .nil)))) (.cons .bool .nil))))) l) (List.mem_cons_self ..)).len
  refine ⟨l.length + 1, 8, fun α k => (rscn_text _ 0 α l k).trans ?_⟩
  rw [sce_badR]
  cases h : decide ((l.length : Int) > 16)
  · have h16 := of_decide_eq_false h
    rw [decide_eq_true (show l.length ≤ 16 by omega), Bool.true_and, cond_false]
    refine (any_loop (f := rscF (l.length + 1) l (k (b1 false))) (fun i : Nat => ((i : Int), ())) l.length (badR l) (k (b1 false)) (fun i hi => ?_) (y := ((l.length : Int), ())) (b := 0) ?_).trans ?_
    · unfold rscF
      simp only [lt_len hi, cond_true, in_len hi, if_pos, and_self, decide_true, Int.toNat_natCast, rsLp_eq l (k (b1 false)) hi hl (show i + 1 ≤ l.length + 1 by omega), rbod_eq, badR, bdOk]
      cases bodB (l.getD i bdD).1 (l.getD i bdD).2.1 (l.getD i bdD).x (l.getD i bdD).y (l.getD i bdD).u (l.getD i bdD).v (l.getD i bdD).s <;> cases (l.getD i bdD).o <;> cases ((l.getD i bdD).u == 0 && (l.getD i bdD).v == 0) <;> cases ((l.getD i bdD).s != 0) <;> rfl
    · unfold rscF
      simp only [not_lt_len, cond_false]
    · cases (List.range l.length).any (badR l) <;> rfl
  · have h16 := of_decide_eq_true h
    rw [decide_eq_false (show ¬ l.length ≤ 16 by omega)]
    rfl
noncomputable def rscnS : Fsp := fun _ args k => match args with
  | [.ro (.recd (.cons (.int .i64) (.cons (.int .i64) (.cons (.recd (.cons (.recd (.cons (.int .i64) (.cons (.int .i64) .nil))) (.cons (.recd (.cons (.int .i64) (.cons (.int .i64) .nil))) (.cons (.int .i64) .nil)))) (.cons .bool .nil))))) l] => k (b1 (sceB l))
  | _ => none
theorem rscnS_ok : FspOk Tryz.prog 46 rscnS := tower_Y fnC0_ok spL_ok ⟨Tryz.func46, fun _ _ => by kernel_rfl⟩ (by intro α args k; unfold rscnS; split <;> rfl) fun args out hSm hEq => by
  unfold rscnS at hEq
  split at hEq
  · rename_i l
    obtain ⟨N, n, e⟩ := rscn_fin l hSm
    exact ⟨N, n, (e AOut some).trans hEq⟩
  · cases hEq
noncomputable def fnC1 : FuncId → Option Fsp := fun g =>
  if g = 22 then some rplacedxS else
  if g = 23 then some rsame5xS else
  if g = 49 then some rstillxS else
  if g = 46 then some rscnS else
  fnC0 g
theorem fnC1_ok : FsOk fnC1 :=
  fs_cons rplacedxS_ok <|
  fs_cons rsame5xS_ok <|
  fs_cons rstillxS_ok <|
  fs_cons rscnS_ok <|
  fnC0_ok
end Go.Proofs.YteaadpgpihggeaaGreat

namespace Go.Proofs.YteaadpgpihggeaaGreat
open Go.RowKit
theorem rck_text (N n0 : Nat) (α : Type) (l : List BdI) (k : AOut → Option α) : evFn real tab ((twY fnC1 spL).env real tab N (n0 + 8)) N Tryz.f21 α [.ro (.recd (.cons (.int .i64) (.cons (.int .i64) (.cons (.recd (.cons (.recd (.cons (.int .i64) (.cons (.int .i64) .nil))) (.cons (.recd (.cons (.int .i64) (.cons (.int .i64) .nil))) (.cons (.int .i64) .nil)))) (.cons .bool .nil))))) l] k = bif !sceB l then k (i1 2) else k (i1 0) := by kernel_rfl
theorem rck_fin (l : List BdI) (hs : ∀ qSm ∈ ([.ro (.recd (.cons (.int .i64) (.cons (.int .i64) (.cons (.recd (.cons (.recd (.cons (.int .i64) (.cons (.int .i64) .nil))) (.cons (.recd (.cons (.int .i64) (.cons (.int .i64) .nil))) (.cons (.int .i64) .nil)))) (.cons .bool .nil))))) l] : List AVal), Sm qSm) : ∃ N n, ∀ α (k : AOut → Option α), evFn real tab ((twY fnC1 spL).env real tab N n) N Tryz.f21 α [.ro (.recd (.cons (.int .i64) (.cons (.int .i64) (.cons (.recd (.cons (.recd (.cons (.int .i64) (.cons (.int .i64) .nil))) (.cons (.recd (.cons (.int .i64) (.cons (.int .i64) .nil))) (.cons (.int .i64) .nil)))) (.cons .bool .nil))))) l] k = k (i1 (sceE l)) := by
  refine ⟨1, 8, fun α k => (rck_text 1 0 α l k).trans ?_⟩
  unfold sceE; cases sceB l <;> rfl
noncomputable def rckS : Fsp := fun _ args k => match args with
  | [.ro (.recd (.cons (.int .i64) (.cons (.int .i64) (.cons (.recd (.cons (.recd (.cons (.int .i64) (.cons (.int .i64) .nil))) (.cons (.recd (.cons (.int .i64) (.cons (.int .i64) .nil))) (.cons (.int .i64) .nil)))) (.cons .bool .nil))))) l] => k (i1 (sceE l))
  | _ => none
theorem rckS_ok : FspOk Tryz.prog 21 rckS := tower_Y fnC1_ok spL_ok ⟨Tryz.func21, fun _ _ => by kernel_rfl⟩ (by intro α args k; unfold rckS; split <;> rfl) fun args out hSm hEq => by
  unfold rckS at hEq
  split at hEq
  · rename_i l
    obtain ⟨N, n, e⟩ := rck_fin l hSm
    exact ⟨N, n, (e AOut some).trans hEq⟩
  · cases hEq
def rmF {α : Type} (l : List BdI) (x : Int × Int × Int × Unit) : Option (LRes (Int × Int × Int × Unit) α) :=
  bif decide (x.1 < (l.length : Int)) then
    if 0 ≤ x.1 ∧ x.1 < (l.length : Int) then
      if 0 ≤ x.1 ∧ x.1 < (l.length : Int) then
        some (.cont (IntKind.i64.wrap (x.1 + 1), IntKind.i64.wrap (x.2.1 + (l.getD x.1.toNat bdD).u), IntKind.i64.wrap (x.2.2.1 + (l.getD x.1.toNat bdD).v), ()))
      else none
    else none
  else some (.brk 0 (x.1, x.2.1, x.2.2.1, ()))
set_option maxRecDepth 100000 in
theorem rmom_text (N n0 : Nat) (α : Type) (l : List BdI) (k : AOut → Option α) : evFn real tab ((twY fnC1 spL).env real tab N (n0 + 8)) N Tryz.f13 α [.ro (.recd (.cons (.int .i64) (.cons (.int .i64) (.cons (.recd (.cons (.recd (.cons (.int .i64) (.cons (.int .i64) .nil))) (.cons (.recd (.cons (.int .i64) (.cons (.int .i64) .nil))) (.cons (.int .i64) .nil)))) (.cons .bool .nil))))) l] k =
 bif !sceB l then k (.ret (.tup [.agg [iN 0, iN 0], iN 2])) else afterL (iterL N (rmF l) (0, 0, 0, ())) fun id y => if id = 0 then k (.ret (.tup [.agg [iN y.2.1, iN y.2.2.1], iN 0]))
 else none := by kernel_rfl
theorem rm_loop {α : Type} {l : List BdI} (h : sceB l = true) (K : Nat → Int × Int × Int × Unit → Option α) : afterL (iterL (l.length + 1) (rmF l) (0, 0, 0, ())) K = K 0 ((l.length : Int), smU l l.length, smV l l.length, ()) := by
  refine count_loop (f := rmF l) (fun i : Nat => ((i : Int), smU l i, smV l i, ())) l.length (fun i hi => ?_) ?_ (by omega)
  · have hl := scn_len h
    have a := sm_in h i (by omega)
    have hb := bdOk_in (scn_mem h _ (getD_mem bdD hi)).1
    unfold rmF
    simp only [lt_len hi, cond_true, in_len hi, if_pos, and_self, decide_true, Int.toNat_natCast, wrap_next hi (by have : maxLen = 9223372036854775807 := rfl; omega), smU, smV]
    rw [i64_in (smU l i + (l.getD i bdD).u) (by omega), i64_in (smV l i + (l.getD i bdD).v) (by omega)]
  · unfold rmF
    simp only [not_lt_len, cond_false]
theorem rmom_fin (l : List BdI) (hs : ∀ qSm ∈ ([.ro (.recd (.cons (.int .i64) (.cons (.int .i64) (.cons (.recd (.cons (.recd (.cons (.int .i64) (.cons (.int .i64) .nil))) (.cons (.recd (.cons (.int .i64) (.cons (.int .i64) .nil))) (.cons (.int .i64) .nil)))) (.cons .bool .nil))))) l] : List AVal), Sm qSm) : ∃ N n, ∀ α (k : AOut → Option α), evFn real tab ((twY fnC1 spL).env real tab N n) N Tryz.f13 α [.ro (.recd (.cons (.int .i64) (.cons (.int .i64) (.cons (.recd (.cons (.recd (.cons (.int .i64) (.cons (.int .i64) .nil))) (.cons (.recd (.cons (.int .i64) (.cons (.int .i64) .nil))) (.cons (.int .i64) .nil)))) (.cons .bool .nil))))) l] k = k (.ret (.tup [.agg [iN (selI (sceB l) (smU l l.length)), iN (selI (sceB l) (smV l l.length))], iN (sceE l)])) := by
  refine ⟨l.length + 1, 8, fun α k => (rmom_text _ 0 α l k).trans ?_⟩
  unfold sceE
  cases h : sceB l
  · rfl
  · exact rm_loop h _
noncomputable def rmomS : Fsp := fun _ args k => match args with
  | [.ro (.recd (.cons (.int .i64) (.cons (.int .i64) (.cons (.recd (.cons (.recd (.cons (.int .i64) (.cons (.int .i64) .nil))) (.cons (.recd (.cons (.int .i64) (.cons (.int .i64) .nil))) (.cons (.int .i64) .nil)))) (.cons .bool .nil))))) l] => k (.ret (.tup [.agg [iN (selI (sceB l) (smU l l.length)), iN (selI (sceB l) (smV l l.length))], iN (sceE l)]))
  | _ => none
theorem rmomS_ok : FspOk Tryz.prog 13 rmomS := tower_Y fnC1_ok spL_ok ⟨Tryz.func13, fun _ _ => by kernel_rfl⟩ (by intro α args k; unfold rmomS; split <;> rfl) fun args out hSm hEq => by
  unfold rmomS at hEq
  split at hEq
  · rename_i l
    obtain ⟨N, n, e⟩ := rmom_fin l hSm
    exact ⟨N, n, (e AOut some).trans hEq⟩
  · cases hEq
theorem rstl_text (N n0 : Nat) (α : Type) (l : List BdI) (k : AOut → Option α) : evFn real tab ((twY fnC1 spL).env real tab N (n0 + 8)) N Tryz.f15 α [.ro (.recd (.cons (.int .i64) (.cons (.int .i64) (.cons (.recd (.cons (.recd (.cons (.int .i64) (.cons (.int .i64) .nil))) (.cons (.recd (.cons (.int .i64) (.cons (.int .i64) .nil))) (.cons (.int .i64) .nil)))) (.cons .bool .nil))))) l] k = bif !sceB l then k (.ret (.tup [.bool false, iN 2])) else k (.ret (.tup [.bool !l.any mvg, iN 0])) := by kernel_rfl
theorem rstl_fin (l : List BdI) (hs : ∀ qSm ∈ ([.ro (.recd (.cons (.int .i64) (.cons (.int .i64) (.cons (.recd (.cons (.recd (.cons (.int .i64) (.cons (.int .i64) .nil))) (.cons (.recd (.cons (.int .i64) (.cons (.int .i64) .nil))) (.cons (.int .i64) .nil)))) (.cons .bool .nil))))) l] : List AVal), Sm qSm) : ∃ N n, ∀ α (k : AOut → Option α), evFn real tab ((twY fnC1 spL).env real tab N n) N Tryz.f15 α [.ro (.recd (.cons (.int .i64) (.cons (.int .i64) (.cons (.recd (.cons (.recd (.cons (.int .i64) (.cons (.int .i64) .nil))) (.cons (.recd (.cons (.int .i64) (.cons (.int .i64) .nil))) (.cons (.int .i64) .nil)))) (.cons .bool .nil))))) l] k = k (.ret (.tup [.bool (sceB l && !(l.any mvg)), iN (sceE l)])) := by
  refine ⟨1, 8, fun α k => (rstl_text 1 0 α l k).trans ?_⟩
  unfold sceE; cases sceB l <;> rfl
noncomputable def rstlS : Fsp := fun _ args k => match args with
  | [.ro (.recd (.cons (.int .i64) (.cons (.int .i64) (.cons (.recd (.cons (.recd (.cons (.int .i64) (.cons (.int .i64) .nil))) (.cons (.recd (.cons (.int .i64) (.cons (.int .i64) .nil))) (.cons (.int .i64) .nil)))) (.cons .bool .nil))))) l] => k (.ret (.tup [.bool (sceB l && !(l.any mvg)), iN (sceE l)]))
  | _ => none
theorem rstlS_ok : FspOk Tryz.prog 15 rstlS := tower_Y fnC1_ok spL_ok ⟨Tryz.func15, fun _ _ => by kernel_rfl⟩ (by intro α args k; unfold rstlS; split <;> rfl) fun args out hSm hEq => by
  unfold rstlS at hEq
  split at hEq
  · rename_i l
    obtain ⟨N, n, e⟩ := rstl_fin l hSm
    exact ⟨N, n, (e AOut some).trans hEq⟩
  · cases hEq
def rstF {α : Type} (l : List BdI) (x : List StI × Int × Unit) : Option (LRes (List StI × Int × Unit) α) :=
  bif decide (x.2.1 < (l.length : Int)) then
    if 0 ≤ x.2.1 ∧ x.2.1 < (l.length : Int) then
      bif !(l.getD x.2.1.toNat bdD).o then
        if 0 ≤ x.2.1 ∧ x.2.1 < (l.length : Int) then if 0 ≤ x.2.1 ∧ x.2.1 < (l.length : Int) then if 0 ≤ x.2.1 ∧ x.2.1 < (l.length : Int) then
          if (x.1.length + [stOf (l.getD x.2.1.toNat bdD)].length) * 32 ≤ room then some (.cont (x.1 ++ [stOf (l.getD x.2.1.toNat bdD)], IntKind.i64.wrap (x.2.1 + 1), ())) else none
        else none else none else none
      else some (.cont (x.1, IntKind.i64.wrap (x.2.1 + 1), ()))
    else none
  else some (.brk 0 (x.1, x.2.1, ()))
set_option maxRecDepth 100000 in
theorem rstn_text (N n0 : Nat) (α : Type) (l : List BdI) (k : AOut → Option α) : evFn real tab ((twY fnC1 spL).env real tab N (n0 + 8)) N Tryz.f17 α [.ro (.recd (.cons (.int .i64) (.cons (.int .i64) (.cons (.recd (.cons (.recd (.cons (.int .i64) (.cons (.int .i64) .nil))) (.cons (.recd (.cons (.int .i64) (.cons (.int .i64) .nil))) (.cons (.int .i64) .nil)))) (.cons .bool .nil))))) l] k =
 bif !sceB l then k (stO [] 2) else afterL (iterL N (rstF l) ([], 0, ())) fun id y => if id = 0 then k (stO y.1 0) else none := by kernel_rfl
theorem rst_loop {α : Type} {l : List BdI} (h : l.length ≤ 20) (K : Nat → List StI × Int × Unit → Option α) : afterL (iterL (l.length + 1) (rstF l) ([], 0, ())) K = K 0 (stnL l, (l.length : Int), ()) := by
  have hroom : room ≥ 10000 := by decide
  unfold stnL
  rw [← fmL_all (fun b => !b.o) stOf bdD]
  refine count_loop (f := rstF l) (fun i : Nat => (fmL (fun b : BdI => !b.o) stOf bdD l i, (i : Int), ())) l.length (fun i hi => ?_) ?_ (by omega)
  · have hl := fmL_len (fun b : BdI => !b.o) stOf bdD l i
    unfold rstF
    simp only [lt_len hi, cond_true, in_len hi, if_pos, and_self, decide_true, Int.toNat_natCast, wrap_next hi (by have : maxLen = 9223372036854775807 := rfl; omega), List.length_singleton, fmL]
    cases (l.getD i bdD).o
    · simp only [Bool.not_false, cond_true]
      rw [if_pos (by omega)]
    · rfl
  · unfold rstF
    simp only [not_lt_len, cond_false]
theorem rstn_fin (l : List BdI) (hs : ∀ qSm ∈ ([.ro (.recd (.cons (.int .i64) (.cons (.int .i64) (.cons (.recd (.cons (.recd (.cons (.int .i64) (.cons (.int .i64) .nil))) (.cons (.recd (.cons (.int .i64) (.cons (.int .i64) .nil))) (.cons (.int .i64) .nil)))) (.cons .bool .nil))))) l] : List AVal), Sm qSm) : ∃ N n, ∀ α (k : AOut → Option α), evFn real tab ((twY fnC1 spL).env real tab N n) N Tryz.f17 α [.ro (.recd (.cons (.int .i64) (.cons (.int .i64) (.cons (.recd (.cons (.recd (.cons (.int .i64) (.cons (.int .i64) .nil))) (.cons (.recd (.cons (.int .i64) (.cons (.int .i64) .nil))) (.cons (.int .i64) .nil)))) (.cons .bool .nil))))) l] k = k (stO (selX (sceB l) (stnL l)) (sceE l)) := by
  refine ⟨l.length + 1, 8, fun α k => (rstn_text _ 0 α l k).trans ?_⟩
  unfold sceE
  cases h : sceB l
  · rfl
  · have hl := scn_len h
    exact rst_loop (by omega) _
noncomputable def rstnS : Fsp := fun _ args k => match args with
  | [.ro (.recd (.cons (.int .i64) (.cons (.int .i64) (.cons (.recd (.cons (.recd (.cons (.int .i64) (.cons (.int .i64) .nil))) (.cons (.recd (.cons (.int .i64) (.cons (.int .i64) .nil))) (.cons (.int .i64) .nil)))) (.cons .bool .nil))))) l] => k (stO (selX (sceB l) (stnL l)) (sceE l))
  | _ => none
theorem rstnS_ok : FspOk Tryz.prog 17 rstnS := tower_Y fnC1_ok spL_ok ⟨Tryz.func17, fun _ _ => by kernel_rfl⟩ (by intro α args k; unfold rstnS; split <;> rfl) fun args out hSm hEq => by
  unfold rstnS at hEq
  split at hEq
  · rename_i l
    obtain ⟨N, n, e⟩ := rstn_fin l hSm
    exact ⟨N, n, (e AOut some).trans hEq⟩
  · cases hEq
def rplF {α : Type} (l : List StI) (x : List BdI × Int × Unit) : Option (LRes (List BdI × Int × Unit) α) :=
  bif decide (x.2.1 < (l.length : Int)) then
    if 0 ≤ x.2.1 ∧ x.2.1 < (l.length : Int) then if 0 ≤ x.2.1 ∧ x.2.1 < (l.length : Int) then if 0 ≤ x.2.1 ∧ x.2.1 < (l.length : Int) then
      if (x.1.length + [bdSt (l.getD x.2.1.toNat stD)].length) * 64 ≤ room then some (.cont (x.1 ++ [bdSt (l.getD x.2.1.toNat stD)], IntKind.i64.wrap (x.2.1 + 1), ())) else none
    else none else none else none
  else some (.brk 0 (x.1, x.2.1, ()))
set_option maxRecDepth 100000 in
theorem rplc_text (N n0 : Nat) (α : Type) (l : List StI) (k : AOut → Option α) : evFn real tab ((twY fnC1 spL).env real tab N (n0 + 8)) N Tryz.f19 α [.ro (.recd (.cons (.int .i64) (.cons (.int .i64) (.cons (.recd (.cons (.int .i64) (.cons (.int .i64) .nil))) .nil)))) l] k =
 bif decide ((l.length : Int) > 16) then k (bdsO [] 3) else afterL (iterL N (rplF l) ([], 0, ())) fun id y => if id = 0 then (bif !sceB y.1 then k (bdsO [] 2) else k (bdsO y.1 0))
 else none := by kernel_rfl
theorem rpl_loop {α : Type} {l : List StI} (h : l.length ≤ 20) (K : Nat → List BdI × Int × Unit → Option α) : afterL (iterL (l.length + 1) (rplF l) ([], 0, ())) K = K 0 (l.map bdSt, (l.length : Int), ()) := by
  have hroom : room ≥ 10000 := by decide
  have e : l.map bdSt = fmL (fun _ => true) bdSt stD l l.length := by rw [fmL_all, List.filter_eq_self.2 fun _ _ => rfl]
  rw [e]
  refine count_loop (f := rplF l) (fun i : Nat => (fmL (fun _ => true) bdSt stD l i, (i : Int), ())) l.length (fun i hi => ?_) ?_ (by omega)
  · have hl := fmL_len (fun _ => true) bdSt stD l i
    unfold rplF
    simp only [lt_len hi, cond_true, in_len hi, if_pos, and_self, decide_true, Int.toNat_natCast, wrap_next hi (by have : maxLen = 9223372036854775807 := rfl; omega), List.length_singleton]
    rw [if_pos (by omega)]
    rfl
  · unfold rplF
    simp only [not_lt_len, cond_false]
theorem rplc_fin (l : List StI) (hs : ∀ qSm ∈ ([.ro (.recd (.cons (.int .i64) (.cons (.int .i64) (.cons (.recd (.cons (.int .i64) (.cons (.int .i64) .nil))) .nil)))) l] : List AVal), Sm qSm) : ∃ N n, ∀ α (k : AOut → Option α), evFn real tab ((twY fnC1 spL).env real tab N n) N Tryz.f19 α [.ro (.recd (.cons (.int .i64) (.cons (.int .i64) (.cons (.recd (.cons (.int .i64) (.cons (.int .i64) .nil))) .nil)))) l] k = k (bdsO (selX (plcE l == 0) (l.map bdSt)) (plcE l)) := by
  refine ⟨l.length + 1, 8, fun α k => (rplc_text _ 0 α l k).trans ?_⟩
  rw [plcE_eq]
  cases h : decide ((l.length : Int) > 16)
  · have hl := of_decide_eq_false h
    refine (rpl_loop (by omega) _).trans ?_
    simp only [cond_false, if_true]
    cases h : sceB (l.map bdSt) <;> rfl
  · rfl
noncomputable def rplcS : Fsp := fun _ args k => match args with
  | [.ro (.recd (.cons (.int .i64) (.cons (.int .i64) (.cons (.recd (.cons (.int .i64) (.cons (.int .i64) .nil))) .nil)))) l] => k (bdsO (selX (plcE l == 0) (l.map bdSt)) (plcE l))
  | _ => none
theorem rplcS_ok : FspOk Tryz.prog 19 rplcS := tower_Y fnC1_ok spL_ok ⟨Tryz.func19, fun _ _ => by kernel_rfl⟩ (by intro α args k; unfold rplcS; split <;> rfl) fun args out hSm hEq => by
  unfold rplcS at hEq
  split at hEq
  · rename_i l
    obtain ⟨N, n, e⟩ := rplc_fin l hSm
    exact ⟨N, n, (e AOut some).trans hEq⟩
  · cases hEq
noncomputable def fnC2 : FuncId → Option Fsp := fun g =>
  if g = 21 then some rckS else
  if g = 13 then some rmomS else
  if g = 15 then some rstlS else
  if g = 17 then some rstnS else
  if g = 19 then some rplcS else
  fnC1 g
theorem fnC2_ok : FsOk fnC2 :=
  fs_cons rckS_ok <|
  fs_cons rmomS_ok <|
  fs_cons rstlS_ok <|
  fs_cons rstnS_ok <|
  fs_cons rplcS_ok <|
  fnC1_ok
end Go.Proofs.YteaadpgpihggeaaGreat

namespace Go.Proofs.YteaadpgpihggeaaGreat
open Go.RowKit
def uniVC (x y c : Int) : Int := bif uniB x y then (bif sq2 x y == 0 then 0 else sg (ngB c) (shrC (ab c) (sq2 x y))) else 0
def uniC : Fsp := fun _ args k => match args with
  | [.agg [.int .i64 x, .int .i64 y]] => k (s2 (uniVC x y x) (uniVC x y y) (uniE x y))
  | _ => none
theorem uniC_eq : uniC = uniS := by
  have h : ∀ x y c, uniV x y c = uniVC x y c := fun x y c => by unfold uniV uniVC; rw [shr_C]
  unfold uniC uniS
  simp only [h]
  rfl
theorem uniC_ok : FspOk Tryz.prog 144 uniC := by rw [uniC_eq]; exact uniS_ok
def bodyS : Fsp := fun _ args k => match args with
  | [.int .i64 t, .int .i64 y, .int .i64 v] => k (.ret (bdN t 0 0 y 0 v 0 false))
  | _ => none
theorem body_text (N n : Nat) (α : Type) (t y v : Int) (k : AOut → Option α) : evFn real tab ((twT fsH spC).env real tab N (n + 4)) N Tryz.f42 α [iN t, iN y, iN v] k = k (.ret (bdN t 0 0 y 0 v 0 false)) := by kernel_rfl
theorem bodyS_ok : FspOk Tryz.prog 42 bodyS := tower_S fsH_ok spC_ok ⟨Tryz.func42, fun _ _ => by kernel_rfl⟩ (by intro α args k; unfold bodyS; split <;> rfl) fun args out hs h => by
  unfold bodyS at h
  split at h
  · exact ⟨8, 4, (body_text 8 0 AOut _ _ _ some).trans h⟩
  · cases h
noncomputable def fsI : FuncId → Option Fsp := fun g => if g = 42 then some bodyS else fsH g
theorem fsI_ok : FsOk fsI := fs_cons bodyS_ok fsH_ok
noncomputable def fsK : FuncId → Option Fsp := fun g => if g = 144 then some uniC else fsI g
theorem fsK_ok : FsOk fsK := fs_cons uniC_ok fsI_ok
def trueS : Fsp := fun _ args k => match args with
  | [] => k (b1 true)
  | _ => none
set_option maxRecDepth 100000 in
theorem aliveT (α : Type) (k : AOut → Option α) : evFn real tab ((twT fsK spC).env real tab 20 8) 20 Tryz.f11 α [] k = k (b1 true) := by kernel_rfl
theorem aliveS_ok : FspOk Tryz.prog 11 trueS := tower_S fsK_ok spC_ok ⟨Tryz.func11, fun _ _ => by kernel_rfl⟩ (by intro α args k; unfold trueS; split <;> rfl) fun args out hs h => by
  unfold trueS at h
  split at h
  · exact ⟨20, 8, (aliveT AOut some).trans h⟩
  · cases h
end Go.Proofs.YteaadpgpihggeaaGreat

namespace Go.Proofs.YteaadpgpihggeaaGreat
open Go.RowKit
noncomputable def fsCs : FuncId → Option Fsp := fun g =>
  if g = 11 then some trueS else
  if g = 20 then some (toFsp cckF) else
  if g = 12 then some cmomS else
  if g = 14 then some cstillS else
  if g = 16 then some cstnS else
  if g = 18 then some cplcS else
  fnC2 g
theorem fsCs_ok : FsOk fsCs :=
  fs_cons aliveS_ok <|
  fs_cons cck_ok <|
  fs_cons cmomS_ok <|
  fs_cons cstillS_ok <|
  fs_cons cstnS_ok <|
  fs_cons cplcS_ok <|
  fnC2_ok
set_option maxRecDepth 100000 in
theorem cscn_text (N n0 : Nat) (α : Type) (l : List BdI) (s : List StI) (k : AOut → Option α) : evFn real tab ((twV fsCs spL).env real tab N (n0 + 8)) N Tryz.f3 α [.ro (.recd (.cons (.int .i64) (.cons (.int .i64) (.cons (.recd (.cons (.recd (.cons (.int .i64) (.cons (.int .i64) .nil))) (.cons (.recd (.cons (.int .i64) (.cons (.int .i64) .nil))) (.cons (.int .i64) .nil)))) (.cons .bool .nil))))) l, .ro (.recd (.cons (.int .i64) (.cons (.int .i64) (.cons (.recd (.cons (.int .i64) (.cons (.int .i64) .nil))) .nil)))) s] k =
 bif decide ((l.length : Int) > 20) then k (b1 true) else bif decide ((s.length : Int) > 20) then k (b1 true) else bif sceE l == sceE l then bif selI (sceB l) (smU l l.length) ==
 selI (sceB l) (smU l l.length) && (selI (sceB l) (smV l l.length) == selI (sceB l) (smV l l.length) && true) then bif sceE l == sceE l then bif (sceB l && !l.any mvg) == (sceB l &&
 !l.any mvg) then bif sceE l == sceE l then bif sameX stEq stD (selX (sceB l) (stnL l)) (selX (sceB l) (stnL l)) then bif sceE l == sceE l then bif sameX bdEq bdD (selX (plcE s == 0)
 (s.map bdSt)) (selX (plcE s == 0) (s.map bdSt)) then bif plcE s == plcE s then k (b1 true) else k (b1 false) else k (b1 false) else k (b1 false) else k (b1 false) else k (b1 false)
 else k (b1 false) else k (b1 false) else k (b1 false) else k (b1 false) := by kernel_rfl
theorem cscn_true (l : List BdI) (s : List StI) : evFn real tab ((twV fsCs spL).env real tab 8 8) 8 Tryz.f3 AOut [.ro (.recd (.cons (.int .i64) (.cons (.int .i64) (.cons (.recd (.cons (.recd (.cons (.int .i64) (.cons (.int .i64) .nil))) (.cons (.recd (.cons (.int .i64) (.cons (.int .i64) .nil))) (.cons (.int .i64) .nil)))) (.cons .bool .nil))))) l, .ro (.recd (.cons (.int .i64) (.cons (.int .i64) (.cons (.recd (.cons (.int .i64) (.cons (.int .i64) .nil))) .nil)))) s] some = some (b1 true) := by
  rw [show (8 : Nat) = 0 + 8 from rfl, cscn_text]
  simp only [BEq.rfl, sameX_refl stEq_refl, sameX_refl bdEq_refl, Bool.and_self, cond_true]
  cases decide ((l.length : Int) > 20) <;> cases decide ((s.length : Int) > 20) <;> rfl
def cscnF : List AVal → Option AOut
  | [.ro (.recd (.cons (.int .i64) (.cons (.int .i64) (.cons (.recd (.cons (.recd (.cons (.int .i64) (.cons (.int .i64) .nil))) (.cons (.recd (.cons (.int .i64) (.cons (.int .i64) .nil))) (.cons (.int .i64) .nil)))) (.cons .bool .nil))))) _, .ro (.recd (.cons (.int .i64) (.cons (.int .i64) (.cons (.recd (.cons (.int .i64) (.cons (.int .i64) .nil))) .nil)))) _] => some (b1 true)
  | _ => none
theorem cscn_ok : FspOk Tryz.prog 3 (toFsp cscnF) := tower_V fsCs_ok spL_ok ⟨Tryz.func3, fun _ _ => by kernel_rfl⟩ (toFsp_nat _) fun args out hSm hq => by
  have h := toFsp_some hq
  unfold cscnF at h
  split at h
  · rename_i l s
    exact ⟨8, 8, (cscn_true l s).trans h⟩
  · cases h
end Go.Proofs.YteaadpgpihggeaaGreat
