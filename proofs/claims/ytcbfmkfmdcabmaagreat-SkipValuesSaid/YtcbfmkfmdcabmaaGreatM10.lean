/- Parts of the proof, in build order. -/
import Derived.Test.YtcbfmkfmdcabmaaGreatM9
namespace Go.Proofs.YtcbfmkfmdcabmaaGreat
open Go.RowKit
def rbF {α : Type} (q : HpI → HpI → Bool) (H : List HpI) (x : Int × Int × Unit) : Option (LRes (Int × Int × Unit) α) :=
  bif decide (x.2.1 < (H.length : Int)) then
    if 0 ≤ x.2.1 ∧ x.2.1 < (H.length : Int) then if 0 ≤ x.1 ∧ x.1 < (H.length : Int) then
      bif q (H.getD x.2.1.toNat (0, 0, ())) (H.getD x.1.toNat (0, 0, ())) then some (.cont (x.2.1, IntKind.i64.wrap (x.2.1 + 1), ())) else some (.cont (x.1, IntKind.i64.wrap (x.2.1 + 1), ()))
    else none else none
  else some (.brk 0 (x.1, x.2.1, ()))
theorem rbe0_text (N n0 : Nat) (α : Type) (H : List HpI) (k : AOut → Option α) : evFn real tab ((twY fsT4 spK).env real tab N (n0 + 30)) N Tryz.f25 α [.ro HpSh H, .int .i64 0] k =
 afterL (iterL N (rbF (fun a b => decide (a.1 > b.1)) H) (0, 1, ())) fun id y => if id = 0 then k (i1 y.1) else none := by kernel_rfl
theorem rbe1_text (N n0 : Nat) (α : Type) (H : List HpI) (k : AOut → Option α) : evFn real tab ((twY fsT4 spK).env real tab N (n0 + 30)) N Tryz.f25 α [.ro HpSh H, .int .i64 1] k =
 afterL (iterL N (rbF (fun a b => decide (a.2.1 < b.2.1)) H) (0, 1, ())) fun id y => if id = 0 then k (i1 y.1) else none := by kernel_rfl
theorem be_one (t : Int) (H : List HpI) : beN t H 1 = 0 := by
  show (bif beQ t (H.getD 0 (0, 0, ())) (H.getD 0 (0, 0, ())) then 0 else 0) = 0
  cases beQ t (H.getD 0 (0, 0, ())) (H.getD 0 (0, 0, ())) <;> rfl
theorem rb_run {α : Type} (t : Int) (H : List HpI) (h0 : 0 < H.length) (hl : H.length ≤ maxLen) (k : AOut → Option α) : afterL (iterL (H.length + 1) (rbF (beQ t) H) (0, 1, ())) (fun id y => if id = 0 then k (i1 y.1) else none) = k (i1 (beX t H : Int)) := by
  have e0 : ((0, 1, ()) : Int × Int × Unit) = ((beN t H (0 + 1) : Int), ((0 + 1 : Nat) : Int), ()) := by rw [be_one]; rfl
  rw [e0]
  refine (count_loop (f := rbF (beQ t) H) (fun i : Nat => ((beN t H (i + 1) : Int), ((i + 1 : Nat) : Int), ())) (H.length - 1) (fun i hi => ?_) (y := ((beX t H : Int), (H.length : Int), ())) (b := 0) ?_ (by omega)).trans ?_
  · have hi1 : i + 1 < H.length := by omega
    have := beN_lt t H (i + 1) (by omega) (by omega)
    have e : beN t H (i + 1 + 1) = bif beQ t (H.getD (i + 1) (0, 0, ())) (H.getD (beN t H (i + 1)) (0, 0, ())) then i + 1 else beN t H (i + 1) := rfl
    rw [e]
    unfold rbF
    simp only [lt_len hi1, cond_true, in_len hi1, in_len this, if_pos, and_self, decide_true, Int.toNat_natCast, wrap_next hi1 hl]
    cases beQ t (H.getD (i + 1) (0, 0, ())) (H.getD (beN t H (i + 1)) (0, 0, ())) <;> rfl
  · have e1 : H.length - 1 + 1 = H.length := by omega
    unfold rbF
    simp only [e1, not_lt_len, cond_false]
    rfl
  · rw [if_pos rfl]
noncomputable def rbeS : Fsp := fun _ args k => match args with
  | [.ro (.recd (.cons (.int .i64) (.cons (.int .i64) .nil))) H, .int .i64 t] => bif choB H t then k (i1 (beX t H : Int)) else none
  | _ => none
theorem rbeS_ok : FspOk Tryz.prog 25 rbeS := tower_Y fsT4_ok spK_ok ⟨Tryz.func25, fun _ _ => by kernel_rfl⟩ (by intro α args k; unfold rbeS; split <;> simp only [cond_bind, Option.bind_some, Option.bind_none]) fun args out hSm hEq => by
  unfold rbeS at hEq
  split at hEq
  · rename_i H t
    have hl : List.length (α := HpI) H ≤ maxLen := (hSm _ (.head _)).len
    cases hc : choB H t
    · rw [hc] at hEq; cases hEq
    · rw [hc] at hEq
      unfold choB hmB at hc
      rw [Bool.and_eq_true, decide_eq_true_eq, Bool.or_eq_true, beq_iff_eq, beq_iff_eq] at hc
      obtain ⟨h0, ht⟩ := hc
      have hr := rb_run t H h0 hl some
      rcases ht with rfl | rfl
      · exact ⟨List.length (α := HpI) H + 1, 30, ((rbe0_text (List.length (α := HpI) H + 1) 0 AOut H some).trans hr).trans hEq⟩
      · exact ⟨List.length (α := HpI) H + 1, 30, ((rbe1_text (List.length (α := HpI) H + 1) 0 AOut H some).trans hr).trans hEq⟩
  · cases hEq
noncomputable def fsT5 : FuncId → Option Fsp := fun g =>
  if g = 25 then some rbeS else
  fsT4 g
theorem fsT5_ok : FsOk fsT5 :=
  fs_cons rbeS_ok <|
  fsT4_ok
/-! Styles. -/
abbrev SsS := MpI × Int × List HpI × Int × Bool × Unit
def ssF {α : Type} (r : RvI) (e l t : Int) (x : SsS) : Option (LRes SsS α) :=
  sel2 r.2.1 r.2.2 t fun L => bif decide (x.2.1 < (L.length : Int)) then bif zD 12 r (e, l, t, ()) x.2.1 x.1 then
    if (x.2.2.1.length + [(((zV r (e, l, t, ()) x.2.1).1, (zV r (e, l, t, ()) x.2.1).2.1, ()) : HpI)].length) * 16 ≤ room then
      some (.cont (zW r (e, l, t, ()) x.2.1 x.1, IntKind.i64.wrap (x.2.1 + 1), x.2.2.1 ++ [((zV r (e, l, t, ()) x.2.1).1, (zV r (e, l, t, ()) x.2.1).2.1, ())], x.2.2.2.1, x.2.2.2.2.1, ()))
    else none else none
  else some (.brk 0 (x.1, x.2.1, x.2.2.1, x.2.2.2.1, x.2.2.2.2.1, ()))
abbrev SuS := Int × List HpI × Int × Bool × Unit
def suC {α : Type} (b : Bool) (x : SuS) : Option (LRes SuS α) := some (.cont (IntKind.i64.wrap (x.1 + 1), x.2.1, x.2.2.1, b, ()))
def suK {α : Type} (t : Int) (x : SuS) : Option (LRes SuS α) :=
  bif t == 1 then if 0 ≤ x.2.2.1 ∧ x.2.2.1 < (x.2.1.length : Int) then if 0 ≤ x.1 ∧ x.1 < (x.2.1.length : Int) then
    bif decide ((x.2.1.getD x.2.2.1.toNat (0, 0, ())).2.1 > (x.2.1.getD x.1.toNat (0, 0, ())).1) then suC false x else suC x.2.2.2.1 x else none else none
  else suC x.2.2.2.1 x
def suG {α : Type} (t : Int) (x : SuS) : Option (LRes SuS α) :=
  bif decide (x.1 < (x.2.1.length : Int)) then
    bif x.1 == x.2.2.1 then suC x.2.2.2.1 x else
    bif t == 0 then if 0 ≤ x.2.2.1 ∧ x.2.2.1 < (x.2.1.length : Int) then if 0 ≤ x.1 ∧ x.1 < (x.2.1.length : Int) then
      bif decide ((x.2.1.getD x.2.2.1.toNat (0, 0, ())).1 < (x.2.1.getD x.1.toNat (0, 0, ())).2.1) then suC false x else suK t x else none else none
    else suK t x
  else some (.brk 2 (x.1, x.2.1, x.2.2.1, x.2.2.2.1, ()))
def rsR (L : List HpI) (n : Int) (b : Bool) (e : Int) : AOut := .ret (.tup [.agg [.ro HpSh L, .int .i64 n, .bool b], .int .i64 e])
def ssT {α : Type} (N : Nat) (r : RvI) (e l t : Int) (k : AOut → Option α) : Option α :=
  afterL (iterL N (ssF r e l t) ([], 0, [], 0, true, ())) fun id y => if id = 0 then bif choB y.2.2.1 t then
    afterL (iterL N (suG t) (0, y.2.2.1, (beX t y.2.2.1 : Int), y.2.2.2.2.1, ())) fun id z => if id = 2 then k (rsR z.2.1 z.2.2.1 z.2.2.2.1 0) else none
  else none else none
set_option maxRecDepth 100000 in
theorem rSy_text (N n0 : Nat) (α : Type) (d : Int) (A B : List (List Int)) (e l t : Int) (k : AOut → Option α) : evFn real tab ((twRN fsT5 spR).env real tab N (n0 + 30)) N Tryz.f10 α [.agg [.int .i64 d, .ro LsSh A, .ro LsSh B], .agg [.int .i64 e, .int .i64 l, .int .i64 t]] k =
 bif rvB (d, A, B) then bif !stB (e, l, t, ()) then k (rsR [] 0 false 2) else bif e == 0 then bif l != 0 then k (rsR [] 0 false 9) else ssT N (d, A, B) e l t k else ssT N (d, A, B) e
 l t k else k (rsR [] 0 false 2) := by kernel_rfl
def ssS (r : RvI) (e l t : Int) (i : Nat) : SsS := (rpN (fun M => pnM wr r e l t M 17) [] i, (i : Int), (stH hv r e l t).take i, 0, true, ())
theorem ssT_eq {α : Type} {r : RvI} {e l t : Int} (hr : rvB r = true) (hs : stB (e, l, t, ()) = true) (k : AOut → Option α) : ssT 20 r e l t k = k (rsR (stH hv r e l t) (beX t (stH hv r e l t) : Int) (siX t (stH hv r e l t)) 0) := by
  have ht := stB_hm hs
  have hO := st_len hv r e l t
  have hp := op_ne hr t
  have h8 : (opL r t).length ≤ 8 := (rv1_in (op_rv hr t)).2.1
  have hmx : maxLen = 9223372036854775807 := rfl
  have hroom : room ≥ 10000 := by decide
  have e12 := (stB_in hs).1.2
  have hV : ∀ j, j < (opL r t).length → zV r (e, l, t, ()) (j : Int) = (stH hv r e l t).getD j H0 := fun j hj => by
    rw [st_eq hr fun i _ => seq_ok hr hs i, List.getD_eq_getElem?_getD, List.getElem?_map, List.getElem?_eq_getElem hj]
    unfold zV
    rw [Int.toNat_natCast, List.getD_eq_getElem?_getD, List.getElem?_eq_getElem hj]
    rfl
  have hzD : ∀ j, j < (opL r t).length → zD 12 r (e, l, t, ()) (j : Int) (rpN (fun M => pnM wr r e l t M 17) [] j) = true := fun j hj => by
    unfold zD
    simp only [Bool.and_eq_true, decide_eq_true_eq]
    exact ⟨hr, hs, e12, gd_rp (fun M hM => gd_fold gd_wr e l t hM 17) rfl j, by omega, by omega⟩
  unfold ssT
  refine (count_loop (f := ssF r e l t) (ssS r e l t) (opL r t).length (fun i hi => ?_) (y := ssS r e l t (opL r t).length) (b := 0) ?_ (by omega)).trans ?_
  · have hi' : i < (stH hv r e l t).length := by omega
    have hT : (stH hv r e l t).take (i + 1) = (stH hv r e l t).take i ++ [(stH hv r e l t).getD i H0] := by
      rw [List.take_add_one, List.getElem?_eq_getElem hi', List.getD_eq_getElem?_getD, List.getElem?_eq_getElem hi']; rfl
    have hl : ((stH hv r e l t).take i).length = i := List.length_take_of_le (by omega)
    have hrm : (((stH hv r e l t).take i).length + 1) * 16 ≤ room := by rw [hl]; omega
    unfold ssF
    rw [sel_op ht]
    unfold ssS
    simp only []
    rw [lt_len hi, cond_true, hzD i hi, cond_true, hV i hi, wrap_next hi (by omega), hT]
    exact if_pos hrm
  · unfold ssF
    rw [sel_op ht]
    unfold ssS
    simp only [not_lt_len, cond_false]
  · rw [if_pos rfl]
    have hTk : (stH hv r e l t).take (opL r t).length = stH hv r e l t := by rw [← hO, List.take_length]
    show (bif choB ((stH hv r e l t).take (opL r t).length) t then afterL (iterL 20 (suG t) (0, (stH hv r e l t).take (opL r t).length, (beX t ((stH hv r e l t).take (opL r t).length) : Int), true, ())) _ else none) = _
    rw [hTk]
    generalize hL : stH hv r e l t = O at hO
    have h0 : 0 < O.length := by omega
    have hcb : choB O t = true := by
      unfold choB
      rw [decide_eq_true h0, ht]; rfl
    have hb := beN_lt t O O.length h0 (Nat.le_refl _)
    have hb' : beX t O < O.length := hb
    rw [hcb, cond_true]
    refine (count_loop (f := suG t) (fun i : Nat => ((i : Int), O, (beX t O : Int), (List.range i).all (siP t O), ())) O.length (fun i hi => ?_) (y := ((O.length : Int), O, (beX t O : Int), siX t O, ())) (b := 2) ?_ (by omega)).trans ?_
    · have hC : ∀ b, siP t O i = b → (List.range (i + 1)).all (siP t O) = ((List.range i).all (siP t O) && b) := fun b hb => by
        rw [List.range_succ, List.all_append, List.all_cons, List.all_nil, Bool.and_true, hb]
      have hw := wrap_next hi (show O.length ≤ maxLen by omega)
      have he : ((i : Int) == (beX t O : Int)) = (i == beX t O) := by rw [Bool.eq_iff_iff, beq_iff_eq, beq_iff_eq]; omega
      have go : ∀ b : Bool, siP t O i = b → (bif b then suC ((List.range i).all (siP t O)) ((i : Int), O, (beX t O : Int), (List.range i).all (siP t O), ()) else suC false ((i : Int), O, (beX t O : Int), (List.range i).all (siP t O), ())) = (some (.cont (((i + 1 : Nat) : Int), O, (beX t O : Int), (List.range (i + 1)).all (siP t O), ())) : Option (LRes SuS α)) := fun b hb => by
        rw [hC b hb]
        unfold suC
        simp only [hw]
        cases b
        · rw [Bool.and_false]; rfl
        · rw [Bool.and_true]; rfl
      unfold suG
      simp only [lt_len hi, cond_true, he, in_len hi, in_len hb', if_pos, and_self, decide_true, Int.toNat_natCast]
      cases hn : i == beX t O
      · rw [cond_false]
        have ht' := ht
        unfold hmB at ht'
        rw [Bool.or_eq_true, beq_iff_eq, beq_iff_eq] at ht'
        rcases ht' with rfl | rfl
        · refine Eq.trans ?_ (go (decide ((O.getD i (0, 0, ())).2.1 ≤ (O.getD (beX 0 O) (0, 0, ())).1)) (by unfold siP; rw [hn]; rfl))
          show (bif decide ((O.getD (beX 0 O) (0, 0, ())).1 < (O.getD i (0, 0, ())).2.1) then suC false _ else suC _ _) = _
          by_cases hh : (O.getD i (0, 0, ())).2.1 ≤ (O.getD (beX 0 O) (0, 0, ())).1
          · rw [decide_eq_true hh, decide_eq_false (by omega)]; rfl
          · rw [decide_eq_false hh, decide_eq_true (by omega)]; rfl
        · refine Eq.trans ?_ (go (decide ((O.getD i (0, 0, ())).1 ≥ (O.getD (beX 1 O) (0, 0, ())).2.1)) (by unfold siP; rw [hn]; rfl))
          unfold suK
          simp only [in_len hi, in_len hb', if_pos, and_self, Int.toNat_natCast]
          show (bif decide ((O.getD (beX 1 O) (0, 0, ())).2.1 > (O.getD i (0, 0, ())).1) then suC false _ else suC _ _) = _
          by_cases hh : (O.getD i (0, 0, ())).1 ≥ (O.getD (beX 1 O) (0, 0, ())).2.1
          · rw [decide_eq_true hh, decide_eq_false (by omega)]; rfl
          · rw [decide_eq_false hh, decide_eq_true (by omega)]; rfl
      · rw [cond_true]
        exact go true (by unfold siP; rw [hn]; rfl)
    · unfold suG
      simp only [not_lt_len, cond_false]
      rfl
    · rw [if_pos rfl]
theorem rSyO_eq {d : Int} {A B : List (List Int)} {e l t : Int} : (bif rsB d A B e l t then bif e == 0 && l != 0 then rsR [] 0 false 9 else rsR (stH hv (d, A, B) e l t) (beX t (stH hv (d, A, B) e l t) : Int) (siX t (stH hv (d, A, B) e l t)) 0 else rsR [] 0 false 2) = rsR (syL d A B e l t) (syN d A B e l t) (syS d A B e l t) (syE d A B e l t) := by
  unfold syL syN syS syE syB
  cases rsB d A B e l t
  · rfl
  cases e == 0 && l != 0 <;> rfl
noncomputable def rSyS : Fsp := fun _ args k => match args with
  | [.agg [.int .i64 d, .ro (.sl (.int .i64)) A, .ro (.sl (.int .i64)) B], .agg [.int .i64 e, .int .i64 l, .int .i64 t]] => k (rsR (syL d A B e l t) (syN d A B e l t) (syS d A B e l t) (syE d A B e l t))
  | _ => none
theorem rSyS_ok : FspOk Tryz.prog 10 rSyS := tower_RN fsT5_ok spR_ok ⟨Tryz.func10, fun _ _ => by kernel_rfl⟩ (by intro α args k; unfold rSyS; split <;> rfl) fun args out hSm hEq => by
  unfold rSyS at hEq
  split at hEq
  · rename_i d A B e l t
    replace hEq := (congrArg some (rSyO_eq (d := d) (A := A) (B := B) (e := e) (l := l) (t := t))).trans hEq
    refine ⟨20, 30, ((rSy_text 20 0 AOut d A B e l t some).trans ((rsB_parts d A B e l t _ _).trans ?_)).trans hEq⟩
    cases hr : rsB d A B e l t
    · rfl
    rw [cond_true, cond_true]
    unfold rsB at hr
    rw [Bool.and_eq_true] at hr
    rw [ssT_eq hr.1 hr.2]
    cases e == 0
    · rfl
    cases l != 0 <;> rfl
  · cases hEq
/-! Blank. -/
theorem bk_ord {r : RvI} (hr : rvB r = true) {e l t : Int} (hs : stB (e, l, t, ()) = true) (h0 : 0 < e) (p q : Int) : OkH (bkG r e l t p) ∧ OkH (bkG r e l t q) := by
  have go : ∀ p, OkH (bkG r e l t p) := fun p => by
    have hn := nx_st (p := p) hs h0
    exact hv_ok hr (nxE e).toNat _ _ _ (Int.toNat_of_nonneg (stB_in hn).1.1).symm hn
  exact ⟨go p, go q⟩
theorem rbT_eq {α : Type} {x y : HpI} (hx : OkH x) (hy : OkH y) (k : AOut → Option α) : rbT (IntKind.i64.wrap (x.1 - y.2.1)) (IntKind.i64.wrap (x.2.1 - y.1)) k = k (rbA (IntKind.i64.wrap (x.1 - y.2.1)) (IntKind.i64.wrap (x.2.1 - y.1)) (bkW (IntKind.i64.wrap (x.1 - y.2.1)) (IntKind.i64.wrap (x.2.1 - y.1))) 0) := by
  have a1 := hx.lo; have a2 := hx.le; have a3 := hx.hi
  have b1 := hy.lo; have b2 := hy.le; have b3 := hy.hi
  rw [i64_in (x.1 - y.2.1) (by omega), i64_in (x.2.1 - y.1) (by omega)]
  unfold rbT bkW
  by_cases h1 : x.1 - y.2.1 > 0
  · rw [decide_eq_true h1, decide_eq_false (show ¬ x.2.1 - y.1 < 0 by omega)]; rfl
  · rw [decide_eq_false h1]
    cases decide (x.2.1 - y.1 < 0) <;> rfl
theorem rBkO_eq {d : Int} {A B : List (List Int)} {e l t : Int} : (bif rsB d A B e l t then bif e == 0 then rbA 0 0 0 9 else rbA (bkL (d, A, B) e l t) (bkH (d, A, B) e l t) (bkW (bkL (d, A, B) e l t) (bkH (d, A, B) e l t)) 0 else rbA 0 0 0 2) = rbA (bqL d A B e l t) (bqH d A B e l t) (bqW d A B e l t) (bqE d A B e l t) := by
  unfold bqL bqH bqW bqE bkB
  cases rsB d A B e l t
  · rfl
  cases e == 0 <;> rfl
noncomputable def rBkS : Fsp := fun _ args k => match args with
  | [.agg [.int .i64 d, .ro (.sl (.int .i64)) A, .ro (.sl (.int .i64)) B], .agg [.int .i64 e, .int .i64 l, .int .i64 t]] => k (rbA (bqL d A B e l t) (bqH d A B e l t) (bqW d A B e l t) (bqE d A B e l t))
  | _ => none
theorem rBkS_ok : FspOk Tryz.prog 12 rBkS := tower_R fsT4_ok spR_ok ⟨Tryz.func12, fun _ _ => by kernel_rfl⟩ (by intro α args k; unfold rBkS; split <;> rfl) fun args out hSm hEq => by
  unfold rBkS at hEq
  split at hEq
  · rename_i d A B e l t
    replace hEq := (congrArg some (rBkO_eq (d := d) (A := A) (B := B) (e := e) (l := l) (t := t))).trans hEq
    refine ⟨20, 30, ((rBk_text 20 0 AOut d A B e l t some).trans ((rsB_parts d A B e l t _ _).trans ?_)).trans hEq⟩
    cases hr : rsB d A B e l t
    · rfl
    rw [cond_true, cond_true]
    unfold rsB at hr
    rw [Bool.and_eq_true] at hr
    cases he : e == 0
    case true => rfl
    have h0 : 0 < e := by
      have := (stB_in hr.2).1.1
      have : e ≠ 0 := beq_eq_false_iff_ne.1 he
      simp only at *
      omega
    obtain ⟨o0, o1⟩ := bk_ord hr.1 hr.2 h0 0 1
    rw [cond_false, cond_false, stB_hm hr.2, hpD_nil hr.1 (nx_st hr.2 h0) rfl, hpD_nil hr.1 (nx_st hr.2 h0) (gd_wr _ _ rfl), show (true && ptB 0) = true from rfl, show (true && ptB 1) = true from rfl, cond_true, cond_true, cond_true, cond_true, rbT_eq o1 o0, rbT_eq o0 o1]
    unfold bkL bkH bkP bkQ
    cases t == 1 <;> rfl
  · cases hEq
noncomputable def fsT6 : FuncId → Option Fsp := fun g =>
  if g = 8 then some rVaS else
  if g = 10 then some rSyS else
  if g = 12 then some rBkS else
  fsT5 g
theorem fsT6_ok : FsOk fsT6 :=
  fs_cons rVaS_ok <|
  fs_cons rSyS_ok <|
  fs_cons rBkS_ok <|
  fsT5_ok
end Go.Proofs.YtcbfmkfmdcabmaaGreat

namespace Go.Proofs.YtcbfmkfmdcabmaaGreat
open Go.RowKit
def prC : List Int := (List.replicate (Int.toNat 17) 0).set (Int.toNat 9) 1
theorem kpa_text (N n0 : Nat) (α : Type) (k : AOut → Option α) : evFn real tab ((twP fsK7 spK).env real tab N (n0 + 30)) N Tryz.f17 α [] k = k (.ret (.agg [.int .i64 1, .ro LsSh [prC], .ro LsSh [prC]])) := by kernel_rfl
noncomputable def kpaS : Fsp := fun _ args k => match args with
  | [] => k (.ret (.agg [.int .i64 1, .ro LsSh [prC], .ro LsSh [prC]]))
  | _ => none
theorem kpaS_ok : FspOk Tryz.prog 17 kpaS := tower_P fsK7_ok spK_ok ⟨Tryz.func17, fun _ _ => by kernel_rfl⟩ (by intro α args k; unfold kpaS; split <;> rfl) fun args out hSm hEq => by
  unfold kpaS at hEq
  split at hEq
  · exact ⟨20, 30, (kpa_text 20 0 AOut some).trans hEq⟩
  · cases hEq
noncomputable def fsK8 : FuncId → Option Fsp := fun g =>
  if g = 17 then some kpaS else
  fsK7 g
theorem fsK8_ok : FsOk fsK8 :=
  fs_cons kpaS_ok <|
  fsK7_ok
set_option maxRecDepth 100000 in
theorem kal_text (N n0 : Nat) (α : Type) (k : AOut → Option α) : evFn real tab ((twY fsK8 spK).env real tab N (n0 + 30)) N Tryz.f5 α [] k = k (b1 true) := by kernel_rfl
noncomputable def kalS : Fsp := fun _ args k => match args with
  | [] => k (b1 true)
  | _ => none
theorem kalS_ok : FspOk Tryz.prog 5 kalS := tower_Y fsK8_ok spK_ok ⟨Tryz.func5, fun _ _ => by kernel_rfl⟩ (by intro α args k; unfold kalS; split <;> rfl) fun args out hSm hEq => by
  unfold kalS at hEq
  split at hEq
  · exact ⟨20, 30, (kal_text 20 0 AOut some).trans hEq⟩
  · cases hEq
/-! Great -/
def grI {α : Type} (A B : List (List Int)) (t : Int) (R : Option α) (x : Int × Unit) : Option (LRes (Int × Unit) α) :=
  sel2 A B t fun L => bif decide (x.1 < (L.length : Int)) then sel2 A B t fun L => if 0 ≤ x.1 ∧ x.1 < (L.length : Int) then bif decide (((L.getD x.1.toNat []).length : Int) > 60) then finL R else some (.cont (IntKind.i64.wrap (x.1 + 1), ())) else none else some (.brk 2 (x.1, ()))
def grR {α : Type} (N : Nat) (A B : List (List Int)) (t : Int) (R E : Option α) : Option α :=
  sel2 A B t fun L => bif decide ((L.length : Int) > 9) then R else afterL (iterL N (grI A B t R) (0, ())) fun id _ => if id = 2 then E else none
def grF {α : Type} (N : Nat) (A B : List (List Int)) (R : Option α) (x : Int × Unit) : Option (LRes (Int × Unit) α) :=
  bif decide (x.1 < 2) then sel2 A B x.1 fun L => bif decide ((L.length : Int) > 3) then sel2 A B x.1 fun L => bif decide ((L.length : Int) ≤ 8) then finL R else grR N A B x.1 (finL R) (some (.cont (IntKind.i64.wrap (x.1 + 1), ()))) else grR N A B x.1 (finL R) (some (.cont (IntKind.i64.wrap (x.1 + 1), ())))
  else some (.brk 0 (x.1, ()))
set_option maxRecDepth 100000 in
theorem grt_text (N n0 : Nat) (α : Type) (d : Int) (A B : List (List Int)) (k : AOut → Option α) : evFn real tab ((twY fsK8 spK).env real tab N (n0 + 30)) N Tryz.f15 α [.agg [.int .i64 d, .ro LsSh A, .ro LsSh B]] k = afterL (iterL N (grF N A B (k (b1 true))) (0, ())) fun id _ => if id = 0 then k (b1 false) else none := by kernel_rfl
def gr1 (L : List (List Int)) : Bool := (decide (3 < L.length) && decide (L.length ≤ 8)) || (decide (9 < L.length) || L.any fun c => decide (60 < c.length))
def grB (A B : List (List Int)) : Bool := gr1 A || gr1 B
theorem grR_eq {α : Type} {N : Nat} (hN : 12 < N) (A B : List (List Int)) (i : Nat) (hi : i < 2) (R E : Option α) : grR N A B (i : Int) R E = bif decide (9 < ([A, B].getD i A).length) || ([A, B].getD i A).any (fun c => decide (60 < c.length)) then R else E := by
  unfold grR
  rw [sel2_eq A B i hi]
  generalize hL : [A, B].getD i A = L
  by_cases h9 : 9 < L.length
  · rw [decide_eq_true (show (L.length : Int) > 9 by omega), decide_eq_true h9]; rfl
  rw [decide_eq_false (show ¬ (L.length : Int) > 9 by omega), decide_eq_false h9, cond_false, Bool.false_or]
  have hmx : L.length ≤ maxLen := by have : maxLen = 9223372036854775807 := rfl; omega
  refine (any_loop' (f := grI A B (i : Int) R) (fun j : Nat => ((j : Int), ())) L.length (fun j => decide (60 < (L.getD j []).length)) R (fun j hj => ?_) (y := ((L.length : Int), ())) (b := 2) ?_ (by omega)).trans ?_
  · unfold grI
    rw [sel2_eq A B i hi, sel2_eq A B i hi, hL]
    simp only [lt_len hj, cond_true, in_len hj, if_pos, and_self, decide_true, Int.toNat_natCast, wrap_next hj hmx]
    rw [show decide (((L.getD j []).length : Int) > 60) = decide (60 < (L.getD j []).length) from decide_eq_decide.2 (by omega)]
  · unfold grI
    rw [sel2_eq A B i hi, hL]
    simp only [not_lt_len, cond_false]
  · rw [if_pos rfl, any_rangeX L [] fun c => decide (60 < c.length)]
theorem gr_plain {α : Type} {N : Nat} (hN : 12 < N) (A B : List (List Int)) (k : AOut → Option α) : (afterL (iterL N (grF N A B (k (b1 true))) (0, ())) fun id _ => if id = 0 then k (b1 false) else none) = k (b1 (grB A B)) := by
  refine (any_loop' (f := grF N A B (k (b1 true))) (fun i : Nat => ((i : Int), ())) 2 (fun i => gr1 ([A, B].getD i A)) (k (b1 true)) (fun i hi => ?_) (y := (2, ())) (b := 0) ?_ (by omega)).trans ?_
  · unfold grF
    simp only []
    rw [decide_eq_true (show (i : Int) < 2 by omega), cond_true, sel2_eq A B i hi, sel2_eq A B i hi, grR_eq hN A B i hi, wrap_next (show i < 2 by omega) (by decide)]
    unfold gr1
    generalize [A, B].getD i A = L
    rw [show decide ((L.length : Int) > 3) = decide (3 < L.length) from decide_eq_decide.2 (by omega), show decide ((L.length : Int) ≤ 8) = decide (L.length ≤ 8) from decide_eq_decide.2 (by omega)]
    cases decide (3 < L.length)
    · cases decide (9 < L.length) || L.any fun c => decide (60 < c.length) <;> rfl
    cases decide (L.length ≤ 8)
    · cases decide (9 < L.length) || L.any fun c => decide (60 < c.length) <;> rfl
    · rfl
  · rfl
  · rw [if_pos rfl]
    show (bif (gr1 A || (gr1 B || false)) then _ else _) = _
    unfold grB
    cases gr1 A
    · cases gr1 B <;> rfl
    · rfl
noncomputable def grtS : Fsp := fun _ args k => match args with
  | [.agg [.int .i64 _, .ro (.sl (.int .i64)) A, .ro (.sl (.int .i64)) B]] => k (b1 (grB A B))
  | _ => none
theorem grtS_ok : FspOk Tryz.prog 15 grtS := tower_Y fsK8_ok spK_ok ⟨Tryz.func15, fun _ _ => by kernel_rfl⟩ (by intro α args k; unfold grtS; split <;> rfl) fun args out hSm hEq => by
  unfold grtS at hEq
  split at hEq
  · rename_i d A B
    exact ⟨20, 30, ((grt_text 20 0 AOut d A B some).trans (gr_plain (by decide) A B some)).trans hEq⟩
  · cases hEq
noncomputable def fsK9 : FuncId → Option Fsp := fun g =>
  if g = 5 then some kalS else
  if g = 15 then some grtS else
  fsK8 g
theorem fsK9_ok : FsOk fsK9 :=
  fs_cons kalS_ok <|
  fs_cons grtS_ok <|
  fsK8_ok
end Go.Proofs.YtcbfmkfmdcabmaaGreat

namespace Go.Proofs.YtcbfmkfmdcabmaaGreat
open Go.RowKit
end Go.Proofs.YtcbfmkfmdcabmaaGreat

namespace Go.Proofs.YtcbfmkfmdcabmaaGreat
open Go.RowKit
abbrev CoS := Int × Int × List (List Int) × List (List Int) × Unit
def coP {α : Type} (t : Int) (c : List Int) (n : Nat) (X Y : Option α) : Option α :=
  if ((List.nil (α := Int)).length + c.length) * 8 ≤ room then if (n + [([] : List Int) ++ c].length) * 24 ≤ room then
    if 0 ≤ t ∧ t < ((2 : Nat) : Int) then bif t == ((0 : Nat) : Int) then X else bif t == ((0 + 1 : Nat) : Int) then Y else none else none
  else none else none
def coI {α : Type} (t : Int) (L : List (List Int)) (x : CoS) : Option (LRes CoS α) :=
  bif decide (x.1 < (L.length : Int)) then
    if 0 ≤ x.1 ∧ x.1 < (L.length : Int) then
      if 0 ≤ t ∧ t < ((2 : Nat) : Int) then
        bif t == ((0 : Nat) : Int) then coP t (L.getD x.1.toNat []) x.2.2.1.length (some (.cont (IntKind.i64.wrap (x.1 + 1), x.2.1, x.2.2.1 ++ [([] : List Int) ++ L.getD x.1.toNat []], x.2.2.2.1, ()))) none
        else bif t == ((0 + 1 : Nat) : Int) then coP t (L.getD x.1.toNat []) x.2.2.2.1.length none (some (.cont (IntKind.i64.wrap (x.1 + 1), x.2.1, x.2.2.1, x.2.2.2.1 ++ [([] : List Int) ++ L.getD x.1.toNat []], ()))) else none
      else none
    else none
  else some (.brk 2 (x.1, x.2.1, x.2.2.1, x.2.2.2.1, ()))
def coF {α : Type} (N : Nat) (A B : List (List Int)) (x : CoS) : Option (LRes CoS α) :=
  bif decide (x.1 < 2) then
    if 0 ≤ x.1 ∧ x.1 < ((2 : Nat) : Int) then
      afterL (iterL N (coI x.1 ([A, B].getD x.1.toNat [])) (0, x.2.1, x.2.2.1, x.2.2.2.1, ())) fun id y => if id = 2 then some (.cont (IntKind.i64.wrap (x.1 + 1), y.2.1, y.2.2.1, y.2.2.2.1, ())) else none
    else none
  else some (.brk 0 (x.1, x.2.1, x.2.2.1, x.2.2.2.1, ()))
set_option maxRecDepth 100000 in
theorem kco_text (N n0 : Nat) (α : Type) (d : Int) (A B : List (List Int)) (k : AOut → Option α) : evFn real tab ((twN fsK9 spK).env real tab N (n0 + 30)) N Tryz.f6 α [.agg [.int .i64 d, .ro LsSh A, .ro LsSh B]] k =
 afterL (iterL N (coF N A B) (0, d, [], [], ())) fun id y => if id = 0 then k (.ret (.agg [.int .i64 y.2.1, .ro LsSh y.2.2.1, .ro LsSh y.2.2.2.1])) else none := by kernel_rfl
def co1 (L : List (List Int)) : Bool := decide (L.length ≤ 9) && L.all fun c => decide (c.length ≤ 60)
def coB (A B : List (List Int)) : Bool := co1 A && co1 B
theorem co1_in {L : List (List Int)} (h : co1 L = true) : L.length ≤ 9 ∧ ∀ i, i < L.length → (L.getD i []).length ≤ 60 := by
  unfold co1 at h
  simp only [Bool.and_eq_true, decide_eq_true_eq, List.all_eq_true] at h
  refine ⟨h.1, fun i hi => ?_⟩
  rw [List.getD_eq_getElem?_getD, List.getElem?_eq_getElem hi]
  exact h.2 _ (List.getElem_mem hi)
theorem co0_run {α : Type} {L : List (List Int)} (h : co1 L = true) (d : Int) (Y : List (List Int)) (K : Nat → CoS → Option α) : afterL (iterL 20 (coI 0 L) (0, d, [], Y, ())) K = K 2 ((L.length : Int), d, L, Y, ()) := by
  obtain ⟨h1, h2⟩ := co1_in h
  have hmx : maxLen = 9223372036854775807 := rfl
  have hroom : room ≥ 10000 := by decide
  refine (count_loop (f := coI 0 L) (fun i : Nat => ((i : Int), d, L.take i, Y, ())) L.length (fun i hi => ?_) (y := ((L.length : Int), d, L, Y, ())) (b := 2) ?_ (by omega)).trans rfl
  · have hT : L.take (i + 1) = L.take i ++ [L.getD i []] := by
      rw [List.take_add_one, List.getElem?_eq_getElem hi, List.getD_eq_getElem?_getD, List.getElem?_eq_getElem hi]; rfl
    have hl : (L.take i).length = i := List.length_take_of_le (by omega)
    have h3 := h2 i hi
    unfold coI
    simp only []
    rw [lt_len hi, cond_true, if_pos (in_len hi), if_pos ⟨by omega, by omega⟩, Int.toNat_natCast, wrap_next hi (by omega), hT]
    show coP 0 _ _ _ _ = _
    unfold coP
    rw [if_pos (show ((List.nil (α := Int)).length + (L.getD i []).length) * 8 ≤ room by simp only [List.length_nil]; omega), if_pos (show ((L.take i).length + [([] : List Int) ++ L.getD i []].length) * 24 ≤ room by rw [hl]; simp only [List.length_cons, List.length_nil]; omega), if_pos ⟨by omega, by omega⟩]
    rfl
  · unfold coI
    simp only [not_lt_len, cond_false, List.take_length]
theorem co1_run {α : Type} {L : List (List Int)} (h : co1 L = true) (d : Int) (X : List (List Int)) (K : Nat → CoS → Option α) : afterL (iterL 20 (coI 1 L) (0, d, X, [], ())) K = K 2 ((L.length : Int), d, X, L, ()) := by
  obtain ⟨h1, h2⟩ := co1_in h
  have hmx : maxLen = 9223372036854775807 := rfl
  have hroom : room ≥ 10000 := by decide
  refine (count_loop (f := coI 1 L) (fun i : Nat => ((i : Int), d, X, L.take i, ())) L.length (fun i hi => ?_) (y := ((L.length : Int), d, X, L, ())) (b := 2) ?_ (by omega)).trans rfl
  · have hT : L.take (i + 1) = L.take i ++ [L.getD i []] := by
      rw [List.take_add_one, List.getElem?_eq_getElem hi, List.getD_eq_getElem?_getD, List.getElem?_eq_getElem hi]; rfl
    have hl : (L.take i).length = i := List.length_take_of_le (by omega)
    have h3 := h2 i hi
    unfold coI
    simp only []
    rw [lt_len hi, cond_true, if_pos (in_len hi), if_pos ⟨by omega, by omega⟩, Int.toNat_natCast, wrap_next hi (by omega), hT]
    show coP 1 _ _ _ _ = _
    unfold coP
    rw [if_pos (show ((List.nil (α := Int)).length + (L.getD i []).length) * 8 ≤ room by simp only [List.length_nil]; omega), if_pos (show ((L.take i).length + [([] : List Int) ++ L.getD i []].length) * 24 ≤ room by rw [hl]; simp only [List.length_cons, List.length_nil]; omega), if_pos ⟨by omega, by omega⟩]
    rfl
  · unfold coI
    simp only [not_lt_len, cond_false, List.take_length]
theorem co_run {α : Type} {A B : List (List Int)} (h : coB A B = true) (d : Int) (K : Nat → CoS → Option α) : afterL (iterL 20 (coF 20 A B) (0, d, [], [], ())) K = K 0 (2, d, A, B, ()) := by
  unfold coB at h
  rw [Bool.and_eq_true] at h
  have s0 : coF (α := α) 20 A B (0, d, [], [], ()) = some (.cont (1, d, A, [], ())) := by
    show afterL (iterL 20 (coI 0 A) (0, d, [], [], ())) _ = _
    rw [co0_run h.1]
    rfl
  have s1 : coF (α := α) 20 A B (1, d, A, [], ()) = some (.cont (2, d, A, B, ())) := by
    show afterL (iterL 20 (coI 1 B) (0, d, A, [], ())) _ = _
    rw [co1_run h.2]
    rfl
  have s2 : coF (α := α) 20 A B (2, d, A, B, ()) = some (.brk 0 (2, d, A, B, ())) := rfl
  have u : ∀ (n : Nat) (f : CoS → Option (LRes CoS α)) x y, f x = some (.cont y) → iterL (n + 1) f x = iterL n f y := fun n f x y e => by
    conv => lhs; unfold iterL
    rw [e]
  rw [u 19 _ _ _ s0, u 18 _ _ _ s1]
  have : iterL 18 (coF 20 A B) (2, d, A, B, ()) = (some (.brk 0 (2, d, A, B, ())) : Option (LRes CoS α)) := by
    unfold iterL
    rw [s2]
  rw [this]
  rfl
noncomputable def kcoS : Fsp := fun _ args k => match args with
  | [.agg [.int .i64 d, .ro (.sl (.int .i64)) A, .ro (.sl (.int .i64)) B]] => bif coB A B then k (.ret (.agg [.int .i64 d, .ro LsSh A, .ro LsSh B])) else none
  | _ => none
theorem kcoS_ok : FspOk Tryz.prog 6 kcoS := tower_N fsK9_ok spK_ok ⟨Tryz.func6, fun _ _ => by kernel_rfl⟩ (by intro α args k; unfold kcoS; split <;> simp only [cond_bind, Option.bind_some, Option.bind_none]) fun args out hSm hEq => by
  unfold kcoS at hEq
  split at hEq
  · rename_i d A B
    cases hc : coB A B
    · rw [hc] at hEq; cases hEq
    · rw [hc] at hEq
      exact ⟨20, 30, ((kco_text 20 0 AOut d A B some).trans (co_run hc d _)).trans hEq⟩
  · cases hEq
end Go.Proofs.YtcbfmkfmdcabmaaGreat

namespace Go.Proofs.YtcbfmkfmdcabmaaGreat
open Go.RowKit
def saK {α : Type} (A B : List (List Int)) (t i : Int) (c : List Int) (R : Option α) (x : Int × Unit) : Option (LRes (Int × Unit) α) :=
  bif decide (x.1 < (c.length : Int)) then if 0 ≤ x.1 ∧ x.1 < (c.length : Int) then
    sel2 A B t fun L => if 0 ≤ i ∧ i < (L.length : Int) then if 0 ≤ x.1 ∧ x.1 < ((L.getD i.toNat []).length : Int) then
      bif c.getD x.1.toNat 0 != (L.getD i.toNat []).getD x.1.toNat 0 then finL R else some (.cont (IntKind.i64.wrap (x.1 + 1), ())) else none else none
    else none
  else some (.brk 4 (x.1, ()))
def saI {α : Type} (N : Nat) (A B : List (List Int)) (t : Int) (L : List (List Int)) (R : Option α) (x : Int × Unit) : Option (LRes (Int × Unit) α) :=
  bif decide (x.1 < (L.length : Int)) then if 0 ≤ x.1 ∧ x.1 < (L.length : Int) then
    sel2 A B t fun L' => if 0 ≤ x.1 ∧ x.1 < (L'.length : Int) then
      bif ((L.getD x.1.toNat []).length : Int) != ((L'.getD x.1.toNat []).length : Int) then finL R else
      afterL (iterL N (saK A B t x.1 (L.getD x.1.toNat []) (finL R)) (0, ())) fun id _ => if id = 4 then some (.cont (IntKind.i64.wrap (x.1 + 1), ())) else none else none
    else none
  else some (.brk 2 (x.1, ()))
def saF {α : Type} (N : Nat) (A B : List (List Int)) (R : Option α) (x : Int × Unit) : Option (LRes (Int × Unit) α) :=
  bif decide (x.1 < 2) then sel2 A B x.1 fun L => sel2 A B x.1 fun L' => bif (L.length : Int) != (L'.length : Int) then finL R else
    sel2 A B x.1 fun L => afterL (iterL N (saI N A B x.1 L (finL R)) (0, ())) fun id _ => if id = 2 then some (.cont (IntKind.i64.wrap (x.1 + 1), ())) else none
  else some (.brk 0 (x.1, ()))
set_option maxRecDepth 100000 in
theorem ksa_text (N n0 : Nat) (α : Type) (d : Int) (A B : List (List Int)) (k : AOut → Option α) : evFn real tab ((twY fsK9 spK).env real tab N (n0 + 30)) N Tryz.f14 α [.agg [.int .i64 d, .ro LsSh A, .ro LsSh B], .agg [.int .i64 d, .ro LsSh A, .ro LsSh B]] k =
 afterL (iterL N (saF N A B (k (b1 false))) (0, ())) fun id _ => if id = 0 then k (b1 (d == d)) else none := by kernel_rfl
theorem sa_run {α : Type} {A B : List (List Int)} (h : coB A B = true) (R : Option α) (K : Nat → Int × Unit → Option α) : afterL (iterL 80 (saF 80 A B R) (0, ())) K = K 0 (2, ()) := by
  unfold coB at h
  rw [Bool.and_eq_true] at h
  have hmx : maxLen = 9223372036854775807 := rfl
  have hL : ∀ t : Nat, t < 2 → co1 ([A, B].getD t A) = true := fun t ht => by
    match t, ht with
    | 0, _ => exact h.1
    | 1, _ => exact h.2
  refine (count_loop (f := saF 80 A B R) (fun t : Nat => ((t : Int), ())) 2 (fun t ht => ?_) (y := (2, ())) (b := 0) rfl (by omega)).trans rfl
  obtain ⟨h1, h2⟩ := co1_in (hL t ht)
  unfold saF
  simp only [sel2_eq A B t ht]
  rw [decide_eq_true (show (t : Int) < 2 by omega), cond_true, bne_self_eq_false, cond_false]
  generalize hLe : [A, B].getD t A = L at h1 h2
  refine (count_loop (f := saI 80 A B (t : Int) L (finL R)) (fun i : Nat => ((i : Int), ())) L.length (fun i hi => ?_) (y := ((L.length : Int), ())) (b := 2) ?_ (by omega)).trans ?_
  · unfold saI
    simp only [sel2_eq A B t ht, hLe]
    rw [lt_len hi, cond_true, if_pos (in_len hi), if_pos (in_len hi), Int.toNat_natCast, bne_self_eq_false, cond_false]
    have h60 := h2 i hi
    generalize hc : L.getD i [] = c at h60
    refine (count_loop (f := saK A B (t : Int) (i : Int) c (finL (finL R))) (fun k : Nat => ((k : Int), ())) c.length (fun k hk => ?_) (y := ((c.length : Int), ())) (b := 4) ?_ (by omega)).trans ?_
    · unfold saK
      simp only [sel2_eq A B t ht, hLe]
      rw [lt_len hk, cond_true, if_pos (in_len hk), if_pos (in_len hi), Int.toNat_natCast, Int.toNat_natCast, hc, if_pos (in_len hk), bne_self_eq_false, cond_false, wrap_next hk (by omega)]
    · unfold saK
      simp only [not_lt_len, cond_false]
    · rw [if_pos rfl, wrap_next hi (by omega)]
  · unfold saI
    simp only [not_lt_len, cond_false]
  · rw [if_pos rfl, wrap_next (show t < 2 by omega) (by omega)]
def sameB (d d' : Int) (A A' B B' : List (List Int)) : Bool := decide (d = d' ∧ A = A' ∧ B = B') && coB A B
theorem sameB_in {d d' : Int} {A A' B B' : List (List Int)} (h : sameB d d' A A' B B' = true) : d = d' ∧ A = A' ∧ B = B' ∧ coB A B = true := by
  unfold sameB at h
  rw [Bool.and_eq_true, decide_eq_true_eq] at h
  exact ⟨h.1.1, h.1.2.1, h.1.2.2, h.2⟩
noncomputable def ksaS : Fsp := fun _ args k => match args with
  | [.agg [.int .i64 d, .ro (.sl (.int .i64)) A, .ro (.sl (.int .i64)) B], .agg [.int .i64 d', .ro (.sl (.int .i64)) A', .ro (.sl (.int .i64)) B']] => bif sameB d d' A A' B B' then k (b1 true) else none
  | _ => none
theorem ksaS_ok : FspOk Tryz.prog 14 ksaS := tower_Y fsK9_ok spK_ok ⟨Tryz.func14, fun _ _ => by kernel_rfl⟩ (by intro α args k; unfold ksaS; split <;> simp only [cond_bind, Option.bind_some, Option.bind_none]) fun args out hSm hEq => by
  unfold ksaS at hEq
  split at hEq
  · rename_i d A B d' A' B'
    cases hc : sameB d d' A A' B B'
    · rw [hc] at hEq; cases hEq
    · rw [hc] at hEq
      obtain ⟨rfl, e1, e2, hco⟩ := sameB_in hc
      cases e1
      cases e2
      refine ⟨80, 30, ((ksa_text 80 0 AOut d A B some).trans ((sa_run hco _ _).trans ?_)).trans hEq⟩
      rw [if_pos rfl, beq_self_eq_true]
      rfl
  · cases hEq
end Go.Proofs.YtcbfmkfmdcabmaaGreat
