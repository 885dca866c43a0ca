/- Parts of the proof, in build order. -/
import Derived.Test.YtgdoeplegcaliaaM7
/- The contract of contact.Meet, in plain numbers. -/
namespace Go.Proofs.Ytgdoeplegcaliaa
open Go.RowKit

noncomputable def mtWx (x y x' y' : Int) : Int := mW (x' - x) (y' - y) (x' - x)
noncomputable def mtWy (x y x' y' : Int) : Int := mW (x' - x) (y' - y) (y' - y)
noncomputable def mtJ (x y sx sy x' y' sx' sy' : Int) : Int := mJ (sx - sx') (sy - sy') (mtWx x y x' y') (mtWy x y x' y')
noncomputable def mtPx (x y sx sy x' y' sx' sy' el : Int) : Int := mP (mtWx x y x' y') (mI (mtJ x y sx sy x' y' sx' sy') el)
noncomputable def mtPy (x y sx sy x' y' sx' sy' el : Int) : Int := mP (mtWy x y x' y') (mI (mtJ x y sx sy x' y' sx' sy') el)
def mtOk (t n x y sx sy sp t' n' x' y' sx' sy' sp' el : Int) : Bool := bodB t n x y sx sy sp && (bodB t' n' x' y' sx' sy' sp' && (decide (0 ≤ el) && decide (el ≤ 1000)))
noncomputable def mtGo (x y sx sy : Int) (o : Bool) (x' y' sx' sy' : Int) (o' : Bool) : Bool := tchB x y x' y' o o' && decide (0 < mtJ x y sx sy x' y' sx' sy')
noncomputable def mtFit (t n x y sx sy sp t' n' x' y' sx' sy' sp' el : Int) : Bool :=
  bodB t n x y (sx - mtPx x y sx sy x' y' sx' sy' el) (sy - mtPy x y sx sy x' y' sx' sy' el) sp && bodB t' n' x' y' (sx' + mtPx x y sx sy x' y' sx' sy' el) (sy' + mtPy x y sx sy x' y' sx' sy' el) sp'
noncomputable def meetR {α : Type} (t n x y sx sy sp : Int) (o : Bool) (t' n' x' y' sx' sy' sp' : Int) (o' : Bool) (el : Int) (k : AOut → Option α) : Option α :=
  bif mtOk t n x y sx sy sp t' n' x' y' sx' sy' sp' el then
    bif mtGo x y sx sy o x' y' sx' sy' o' then
      bif mtFit t n x y sx sy sp t' n' x' y' sx' sy' sp' el then
        k (mtO (bdN t n x y (sx - mtPx x y sx sy x' y' sx' sy' el) (sy - mtPy x y sx sy x' y' sx' sy' el) sp o) (bdN t' n' x' y' (sx' + mtPx x y sx sy x' y' sx' sy' el) (sy' + mtPy x y sx sy x' y' sx' sy' el) sp' o') true 0)
      else k (mtO bd0 bd0 false 4)
    else k (mtO (bdN t n x y sx sy sp o) (bdN t' n' x' y' sx' sy' sp' o') false 0)
  else k (mtO bd0 bd0 false 2)

structure BodIs (t n x y sx sy sp : Int) : Prop where
  t : 0 ≤ t ∧ t ≤ 1
  n : 0 ≤ n ∧ n ≤ 7
  x : -6553600000 ≤ x ∧ x ≤ 6553600000
  y : -6553600000 ≤ y ∧ y ≤ 6553600000
  sx : -65536000 ≤ sx ∧ sx ≤ 65536000
  sy : -65536000 ≤ sy ∧ sy ≤ 65536000
  sp : -1000 ≤ sp ∧ sp ≤ 1000
theorem bod_is {t n x y sx sy sp : Int} : bodB t n x y sx sy sp = true ↔ BodIs t n x y sx sy sp := by
  simp only [bodB, movB, rgB, Bool.and_eq_true, decide_eq_true_eq]
  exact ⟨fun ⟨⟨a, b⟩, ⟨⟨⟨c, d⟩, e⟩, f⟩, g⟩ => ⟨a, b, c, d, e, f, g⟩, fun ⟨a, b, c, d, e, f, g⟩ => ⟨⟨a, b⟩, ⟨⟨⟨c, d⟩, e⟩, f⟩, g⟩⟩

theorem tch_ne {x y u v : Int} {o p : Bool} (h : tchB x y u v o p = true) (hm : miX u v x y = u - x ∧ miY u v x y = v - y) : sq2 (u - x) (v - y) ≠ 0 := by
  unfold tchB at h
  rw [hm.1, hm.2] at h
  simp only [Bool.and_eq_true, Bool.not_eq_true', Bool.and_eq_false_iff, beq_eq_false_iff_ne] at h
  obtain ⟨_, _, _, h⟩ := h
  unfold sq2
  rw [ab_sq, ab_sq]
  have h1 : 0 ≤ (u - x) * (u - x) := by rw [← ab_sq]; exact Int.mul_nonneg (ab_nn _) (ab_nn _)
  have h2 : 0 ≤ (v - y) * (v - y) := by rw [← ab_sq]; exact Int.mul_nonneg (ab_nn _) (ab_nn _)
  rcases h with h | h
  · have : (u - x) * (u - x) ≠ 0 := fun e => h ((Int.mul_eq_zero.1 e).elim id id)
    omega
  · have : (v - y) * (v - y) ≠ 0 := fun e => h ((Int.mul_eq_zero.1 e).elim id id)
    omega

/-- What is said of a contact. -/
structure MtIs (x y sx sy x' y' sx' sy' el : Int) : Prop where
  way : Way (x' - x) (y' - y)
  j : -262144000 ≤ mtJ x y sx sy x' y' sx' sy' ∧ mtJ x y sx sy x' y' sx' sy' ≤ 262144000
  i : 0 < mtJ x y sx sy x' y' sx' sy' → 0 ≤ mI (mtJ x y sx sy x' y' sx' sy') el ∧ mI (mtJ x y sx sy x' y' sx' sy') el ≤ mtJ x y sx sy x' y' sx' sy'
  px : 0 < mtJ x y sx sy x' y' sx' sy' → -262144000 ≤ mtPx x y sx sy x' y' sx' sy' el ∧ mtPx x y sx sy x' y' sx' sy' el ≤ 262144000
  py : 0 < mtJ x y sx sy x' y' sx' sy' → -262144000 ≤ mtPy x y sx sy x' y' sx' sy' el ∧ mtPy x y sx sy x' y' sx' sy' el ≤ 262144000

theorem mt_is {t n x y sx sy sp t' n' x' y' sx' sy' sp' el : Int} {o o' : Bool} (a : BodIs t n x y sx sy sp) (b : BodIs t' n' x' y' sx' sy' sp') (he : 0 ≤ el ∧ el ≤ 1000) (ht : tchB x y x' y' o o' = true) : MtIs x y sx sy x' y' sx' sy' el := by
  have m1 := mi_small (B := 6553600000) (by omega) b.x b.y a.x a.y
  have hz := tch_ne ht m1.2
  have W := way_of (dx := x' - x) (dy := y' - y) (ok_le (B := 13107200000) (by have := a.x; have := b.x; omega) (by omega)) (ok_le (B := 13107200000) (by have := a.y; have := b.y; omega) (by omega)) hz
  have hr : (-131072000 ≤ sx - sx' ∧ sx - sx' ≤ 131072000) ∧ (-131072000 ≤ sy - sy' ∧ sy - sy' ≤ 131072000) := by
    have := a.sx; have := b.sx; have := a.sy; have := b.sy; omega
  have D := (dt_down hr ⟨W.wx, W.wy⟩).2.2
  have I := fun h => (sl_cut (j := mtJ x y sx sy x' y' sx' sy') (el := el) ⟨h, D.2⟩ he).2.2
  exact ⟨W, D, I, fun h => mP_bd W.wx ⟨(I h).1, Int.le_trans (I h).2 D.2⟩, fun h => mP_bd W.wy ⟨(I h).1, Int.le_trans (I h).2 D.2⟩⟩

theorem meet_fin {α : Type} (t n x y sx sy sp : Int) (o : Bool) (t' n' x' y' sx' sy' sp' : Int) (o' : Bool) (el : Int) (k : AOut → Option α) :
    meetText t n x y sx sy sp o t' n' x' y' sx' sy' sp' o' el k = meetR t n x y sx sy sp o t' n' x' y' sx' sy' sp' o' el k := by
  unfold meetText meetR mtOk
  cases ha : bodB t n x y sx sy sp
  · rfl
  · cases hb : bodB t' n' x' y' sx' sy' sp'
    · rfl
    · by_cases e1 : 0 ≤ el
      · by_cases e2 : el ≤ 1000
        · simp only [decide_eq_true e1, decide_eq_true e2, Bool.not_true, Bool.and_self, cond_true, cond_false]
          unfold mtGo
          cases ht : tchB x y x' y' o o'
          · rfl
          · simp only [cond_true, Bool.true_and]
            have A := bod_is.1 ha
            have B := bod_is.1 hb
            have M := mt_is A B ⟨e1, e2⟩ ht
            have m1 := mi_small (B := 6553600000) (by omega) B.x B.y A.x A.y
            have m2 := mi_small (B := 65536000) (by omega) A.sx A.sy B.sx B.sy
            have hr : (-131072000 ≤ sx - sx' ∧ sx - sx' ≤ 131072000) ∧ (-131072000 ≤ sy - sy' ∧ sy - sy' ≤ 131072000) := by
              have := A.sx; have := B.sx; have := A.sy; have := B.sy; omega
            have D := dt_down hr ⟨M.way.wx, M.way.wy⟩
            unfold mt1
            rw [badK_0 _ _ _ _ m1.1, m1.2.1, m1.2.2]
            unfold mt2
            rw [badK_0 _ _ _ _ M.way.e, M.way.vx, M.way.vy]
            unfold mt3
            rw [badK_0 _ _ _ _ m2.1, m2.2.1, m2.2.2]
            unfold mt4
            rw [badK_0 _ _ _ _ D.1, D.2.1]
            have hJ : mJ (sx - sx') (sy - sy') (mW (x' - x) (y' - y) (x' - x)) (mW (x' - x) (y' - y) (y' - y)) = mtJ x y sx sy x' y' sx' sy' := rfl
            rw [hJ]
            unfold mt5
            by_cases hj : 0 < mtJ x y sx sy x' y' sx' sy'
            · rw [decide_eq_false (show ¬ mtJ x y sx sy x' y' sx' sy' ≤ 0 by omega), decide_eq_true hj, cond_false, cond_true]
              have I := sl_cut (j := mtJ x y sx sy x' y' sx' sy') (el := el) ⟨hj, M.j.2⟩ ⟨e1, e2⟩
              have T := ti_cut ⟨M.way.wx, M.way.wy⟩ (i := mI (mtJ x y sx sy x' y' sx' sy') el) ⟨I.2.2.1, Int.le_trans I.2.2.2 M.j.2⟩
              rw [i64w (1000 + el) (by omega), badK_0 _ _ _ _ I.1, I.2.1]
              unfold mt6
              rw [badK_0 _ _ _ _ T.1, T.2.1, T.2.2]
              have hPx : mP (mW (x' - x) (y' - y) (x' - x)) (mI (mtJ x y sx sy x' y' sx' sy') el) = mtPx x y sx sy x' y' sx' sy' el := rfl
              have hPy : mP (mW (x' - x) (y' - y) (y' - y)) (mI (mtJ x y sx sy x' y' sx' sy') el) = mtPy x y sx sy x' y' sx' sy' el := rfl
              rw [hPx, hPy]
              have px := M.px hj
              have py := M.py hj
              have s1 := A.sx
              have s2 := A.sy
              have s3 := B.sx
              have s4 := B.sy
              have q1 := mi_small (x := sx) (y := sy) (B := 262144000) (by omega) (by omega) (by omega) px py
              have q2 := pl_small (x := sx') (y := sy') (B := 262144000) (by omega) (by omega) (by omega) px py
              unfold mt7
              rw [badK_0 _ _ _ _ q1.1, q1.2.1, q1.2.2]
              unfold mt8
              rw [badK_0 _ _ _ _ q2.1, q2.2.1, q2.2.2]
              unfold mt9 mtFit
              cases bodB t n x y (sx - mtPx x y sx sy x' y' sx' sy' el) (sy - mtPy x y sx sy x' y' sx' sy' el) sp
              · rfl
              · cases bodB t' n' x' y' (sx' + mtPx x y sx sy x' y' sx' sy' el) (sy' + mtPy x y sx sy x' y' sx' sy' el) sp' <;> rfl
            · rw [decide_eq_true (show mtJ x y sx sy x' y' sx' sy' ≤ 0 by omega), decide_eq_false hj, cond_true, cond_false]
        · rw [decide_eq_true e1, decide_eq_false e2]; rfl
      · rw [decide_eq_false e1]; rfl

noncomputable def meetS : Fsp := fun _ args k => match args with
  | [.agg [.int .i64 t, .int .i64 n, .int .i64 x, .int .i64 y, .int .i64 sx, .int .i64 sy, .int .i64 sp, .bool o], .agg [.int .i64 t', .int .i64 n', .int .i64 x', .int .i64 y', .int .i64 sx', .int .i64 sy', .int .i64 sp', .bool o'], .int .i64 el] =>
    meetR t n x y sx sy sp o t' n' x' y' sx' sy' sp' o' el k
  | _ => none
theorem meetS_ok : FspOk Try.prog 6 meetS := tower_S fsH_ok spC_ok ⟨Try.func6, fun _ _ => by kernel_rfl⟩ (by intro α args k; unfold meetS; split <;> simp only [meetR, cond_bind, Option.bind_some, Option.bind_none]) fun args out hs h => by
  unfold meetS at h
  split at h
  · exact ⟨8, 5, (meet_text 8 0 AOut _ _ _ _ _ _ _ _ _ _ _ _ _ _ _ _ _ some).trans ((meet_fin ..).trans h)⟩
  · cases h
end Go.Proofs.Ytgdoeplegcaliaa

/- The law package of contact: energy; the chapter's first examples. -/
namespace Go.Proofs.Ytgdoeplegcaliaa
open Go.RowKit

def uniVC (x y c : Int) : Int := bif uniB x y then (bif sq2 x y == 0 then 0 else sg (ngB c) (shrC (ab c) (sq2 x y))) else 0
/-- Unit, open to evaluation. -/
def uniC : Fsp := fun _ args k => match args with
  | [.agg [.int .i64 x, .int .i64 y]] => k (s2 (uniVC x y x) (uniVC x y y) (uniE x y))
  | _ => none
theorem uniC_eq : uniC = uniS := by
  have h : ∀ x y c, uniV x y c = uniVC x y c := fun x y c => by unfold uniV uniVC; rw [shr_C]
  unfold uniC uniS
  simp only [h]
  rfl
theorem uniC_ok : FspOk Try.prog 28 uniC := by rw [uniC_eq]; exact uniS_ok
def bodyS : Fsp := fun _ args k => match args with
  | [.int .i64 t, .int .i64 y, .int .i64 v] => k (.ret (bdN t 0 0 y 0 v 0 false))
  | _ => none
theorem body_text (N n : Nat) (α : Type) (t y v : Int) (k : AOut → Option α) : evFn real tab ((twT fsH spC).env real tab N (n + 4)) N Try.f9 α [iN t, iN y, iN v] k = k (.ret (bdN t 0 0 y 0 v 0 false)) := by kernel_rfl
theorem bodyS_ok : FspOk Try.prog 9 bodyS := tower_S fsH_ok spC_ok ⟨Try.func9, fun _ _ => by kernel_rfl⟩ (by intro α args k; unfold bodyS; split <;> rfl) fun args out hs h => by
  unfold bodyS at h
  split at h
  · exact ⟨8, 4, (body_text 8 0 AOut _ _ _ some).trans h⟩
  · cases h
noncomputable def fsI : FuncId → Option Fsp := fun g => if g = 9 then some bodyS else fsH g
theorem fsI_ok : FsOk fsI := fs_cons bodyS_ok fsH_ok
noncomputable def fsK : FuncId → Option Fsp := fun g => if g = 28 then some uniC else fsI g
theorem fsK_ok : FsOk fsK := fs_cons uniC_ok fsI_ok

def trueS : Fsp := fun _ args k => match args with
  | [] => k (b1 true)
  | _ => none
set_option maxRecDepth 100000 in
theorem aliveT (α : Type) (k : AOut → Option α) : evFn real tab ((twT fsK spC).env real tab 20 8) 20 Try.f5 α [] k = k (b1 true) := by kernel_rfl
theorem aliveS_ok : FspOk Try.prog 5 trueS := tower_S fsK_ok spC_ok ⟨Try.func5, fun _ _ => by kernel_rfl⟩ (by intro α args k; unfold trueS; split <;> rfl) fun args out hs h => by
  unfold trueS at h
  split at h
  · exact ⟨20, 8, (aliveT AOut some).trans h⟩
  · cases h
end Go.Proofs.Ytgdoeplegcaliaa
