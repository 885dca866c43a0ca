/- Parts of the proof, in build order. -/
import Derived.Test.YtgdoeplegcaliaaGreatM8
import Derived.Test.YtgdoeplegcaliaaGreatM7
/- The contract of contact.Meet, in plain numbers. -/
namespace Go.Proofs.YtgdoeplegcaliaaGreat
open Go.RowKit

noncomputable def mtWx (x y x' y' : Int) : Int := mW (x' - x) (y' - y) (x' - x)
noncomputable def mtWy (x y x' y' : Int) : Int := mW (x' - x) (y' - y) (y' - y)
noncomputable def mtJ (x y sx sy x' y' sx' sy' : Int) : Int := mJ (sx - sx') (sy - sy') (mtWx x y x' y') (mtWy x y x' y')
noncomputable def mtPx (x y sx sy x' y' sx' sy' el : Int) : Int := mP (mtWx x y x' y') (mI (mtJ x y sx sy x' y' sx' sy') el)
noncomputable def mtPy (x y sx sy x' y' sx' sy' el : Int) : Int := mP (mtWy x y x' y') (mI (mtJ x y sx sy x' y' sx' sy') el)
def mtOk (t n x y sx sy sp t' n' x' y' sx' sy' sp' el : Int) : Bool := bodB t n x y sx sy sp && (bodB t' n' x' y' sx' sy' sp' && (decide (0 ≤ el) && decide (el ≤ 1000)))
noncomputable def mtGo (x y sx sy : Int) (o : Bool) (x' y' sx' sy' : Int) (o' : Bool) : Bool := tchB x y x' y' o o' && decide (0 < mtJ x y sx sy x' y' sx' sy')
noncomputable def mtFit (t n x y sx sy sp t' n' x' y' sx' sy' sp' el : Int) : Bool :=
  bodB t n x y (sx - mtPx x y sx sy x' y' sx' sy' el) (sy - mtPy x y sx sy x' y' sx' sy' el) sp && bodB t' n' x' y' (sx' + mtPx x y sx sy x' y' sx' sy' el) (sy' + mtPy x y sx sy x' y' sx' sy' el) sp'
noncomputable def meetR {α : Type} (t n x y sx sy sp : Int) (o : Bool) (t' n' x' y' sx' sy' sp' : Int) (o' : Bool) (el : Int) (k : AOut → Option α) : Option α :=
  bif mtOk t n x y sx sy sp t' n' x' y' sx' sy' sp' el then
    bif mtGo x y sx sy o x' y' sx' sy' o' then
      bif mtFit t n x y sx sy sp t' n' x' y' sx' sy' sp' el then
        k (mtO (bdN t n x y (sx - mtPx x y sx sy x' y' sx' sy' el) (sy - mtPy x y sx sy x' y' sx' sy' el) sp o) (bdN t' n' x' y' (sx' + mtPx x y sx sy x' y' sx' sy' el) (sy' + mtPy x y sx sy x' y' sx' sy' el) sp' o') true 0)
      else k (mtO bd0 bd0 false 4)
    else k (mtO (bdN t n x y sx sy sp o) (bdN t' n' x' y' sx' sy' sp' o') false 0)
  else k (mtO bd0 bd0 false 2)

structure BodIs (t n x y sx sy sp : Int) : Prop where
  t : 0 ≤ t ∧ t ≤ 1
  n : 0 ≤ n ∧ n ≤ 7
  x : -6553600000 ≤ x ∧ x ≤ 6553600000
  y : -6553600000 ≤ y ∧ y ≤ 6553600000
  sx : -65536000 ≤ sx ∧ sx ≤ 65536000
  sy : -65536000 ≤ sy ∧ sy ≤ 65536000
  sp : -1000 ≤ sp ∧ sp ≤ 1000
theorem bod_is {t n x y sx sy sp : Int} : bodB t n x y sx sy sp = true ↔ BodIs t n x y sx sy sp := by
  simp only [bodB, movB, rgB, Bool.and_eq_true, decide_eq_true_eq]
  exact ⟨fun ⟨⟨a, b⟩, ⟨⟨⟨c, d⟩, e⟩, f⟩, g⟩ => ⟨a, b, c, d, e, f, g⟩, fun ⟨a, b, c, d, e, f, g⟩ => ⟨⟨a, b⟩, ⟨⟨⟨c, d⟩, e⟩, f⟩, g⟩⟩

theorem tch_ne {x y u v : Int} {o p : Bool} (h : tchB x y u v o p = true) (hm : miX u v x y = u - x ∧ miY u v x y = v - y) : sq2 (u - x) (v - y) ≠ 0 := by
  unfold tchB at h
  rw [hm.1, hm.2] at h
  simp only [Bool.and_eq_true, Bool.not_eq_true', Bool.and_eq_false_iff, beq_eq_false_iff_ne] at h
  obtain ⟨_, _, _, h⟩ := h
  unfold sq2
  rw [ab_sq, ab_sq]
  have h1 : 0 ≤ (u - x) * (u - x) := by rw [← ab_sq]; exact Int.mul_nonneg (ab_nn _) (ab_nn _)
  have h2 : 0 ≤ (v - y) * (v - y) := by rw [← ab_sq]; exact Int.mul_nonneg (ab_nn _) (ab_nn _)
  rcases h with h | h
  · have : (u - x) * (u - x) ≠ 0 := fun e => h ((Int.mul_eq_zero.1 e).elim id id)
    omega
  · have : (v - y) * (v - y) ≠ 0 := fun e => h ((Int.mul_eq_zero.1 e).elim id id)
    omega

/-- What is said of a contact. -/
structure MtIs (x y sx sy x' y' sx' sy' el : Int) : Prop where
  way : Way (x' - x) (y' - y)
  j : -262144000 ≤ mtJ x y sx sy x' y' sx' sy' ∧ mtJ x y sx sy x' y' sx' sy' ≤ 262144000
  i : 0 < mtJ x y sx sy x' y' sx' sy' → 0 ≤ mI (mtJ x y sx sy x' y' sx' sy') el ∧ mI (mtJ x y sx sy x' y' sx' sy') el ≤ mtJ x y sx sy x' y' sx' sy'
  px : 0 < mtJ x y sx sy x' y' sx' sy' → -262144000 ≤ mtPx x y sx sy x' y' sx' sy' el ∧ mtPx x y sx sy x' y' sx' sy' el ≤ 262144000
  py : 0 < mtJ x y sx sy x' y' sx' sy' → -262144000 ≤ mtPy x y sx sy x' y' sx' sy' el ∧ mtPy x y sx sy x' y' sx' sy' el ≤ 262144000

theorem mt_is {t n x y sx sy sp t' n' x' y' sx' sy' sp' el : Int} {o o' : Bool} (a : BodIs t n x y sx sy sp) (b : BodIs t' n' x' y' sx' sy' sp') (he : 0 ≤ el ∧ el ≤ 1000) (ht : tchB x y x' y' o o' = true) : MtIs x y sx sy x' y' sx' sy' el := by
  have m1 := mi_small (B := 6553600000) (by omega) b.x b.y a.x a.y
  have hz := tch_ne ht m1.2
  have W := way_of (dx := x' - x) (dy := y' - y) (ok_le (B := 13107200000) (by have := a.x; have := b.x; omega) (by omega)) (ok_le (B := 13107200000) (by have := a.y; have := b.y; omega) (by omega)) hz
  have hr : (-131072000 ≤ sx - sx' ∧ sx - sx' ≤ 131072000) ∧ (-131072000 ≤ sy - sy' ∧ sy - sy' ≤ 131072000) := by
    have := a.sx; have := b.sx; have := a.sy; have := b.sy; omega
  have D := (dt_down hr ⟨W.wx, W.wy⟩).2.2
  have I := fun h => (sl_cut (j := mtJ x y sx sy x' y' sx' sy') (el := el) ⟨h, D.2⟩ he).2.2
  exact ⟨W, D, I, fun h => mP_bd W.wx ⟨(I h).1, Int.le_trans (I h).2 D.2⟩, fun h => mP_bd W.wy ⟨(I h).1, Int.le_trans (I h).2 D.2⟩⟩

theorem meet_fin {α : Type} (t n x y sx sy sp : Int) (o : Bool) (t' n' x' y' sx' sy' sp' : Int) (o' : Bool) (el : Int) (k : AOut → Option α) :
    meetText t n x y sx sy sp o t' n' x' y' sx' sy' sp' o' el k = meetR t n x y sx sy sp o t' n' x' y' sx' sy' sp' o' el k := by
  unfold meetText meetR mtOk
  cases ha : bodB t n x y sx sy sp
  · rfl
  · cases hb : bodB t' n' x' y' sx' sy' sp'
    · rfl
    · by_cases e1 : 0 ≤ el
      · by_cases e2 : el ≤ 1000
        · simp only [decide_eq_true e1, decide_eq_true e2, Bool.not_true, Bool.and_self, cond_true, cond_false]
          unfold mtGo
          cases ht : tchB x y x' y' o o'
          · rfl
          · simp only [cond_true, Bool.true_and]
            have A := bod_is.1 ha
            have B := bod_is.1 hb
            have M := mt_is A B ⟨e1, e2⟩ ht
            have m1 := mi_small (B := 6553600000) (by omega) B.x B.y A.x A.y
            have m2 := mi_small (B := 65536000) (by omega) A.sx A.sy B.sx B.sy
            have hr : (-131072000 ≤ sx - sx' ∧ sx - sx' ≤ 131072000) ∧ (-131072000 ≤ sy - sy' ∧ sy - sy' ≤ 131072000) := by
              have := A.sx; have := B.sx; have := A.sy; have := B.sy; omega
            have D := dt_down hr ⟨M.way.wx, M.way.wy⟩
            unfold mt1
            rw [badK_0 _ _ _ _ m1.1, m1.2.1, m1.2.2]
            unfold mt2
            rw [badK_0 _ _ _ _ M.way.e, M.way.vx, M.way.vy]
            unfold mt3
            rw [badK_0 _ _ _ _ m2.1, m2.2.1, m2.2.2]
            unfold mt4
            rw [badK_0 _ _ _ _ D.1, D.2.1]
            have hJ : mJ (sx - sx') (sy - sy') (mW (x' - x) (y' - y) (x' - x)) (mW (x' - x) (y' - y) (y' - y)) = mtJ x y sx sy x' y' sx' sy' := rfl
            rw [hJ]
            unfold mt5
            by_cases hj : 0 < mtJ x y sx sy x' y' sx' sy'
            · rw [decide_eq_false (show ¬ mtJ x y sx sy x' y' sx' sy' ≤ 0 by omega), decide_eq_true hj, cond_false, cond_true]
              have I := sl_cut (j := mtJ x y sx sy x' y' sx' sy') (el := el) ⟨hj, M.j.2⟩ ⟨e1, e2⟩
              have T := ti_cut ⟨M.way.wx, M.way.wy⟩ (i := mI (mtJ x y sx sy x' y' sx' sy') el) ⟨I.2.2.1, Int.le_trans I.2.2.2 M.j.2⟩
              rw [i64w (1000 + el) (by omega), badK_0 _ _ _ _ I.1, I.2.1]
              unfold mt6
              rw [badK_0 _ _ _ _ T.1, T.2.1, T.2.2]
              have hPx : mP (mW (x' - x) (y' - y) (x' - x)) (mI (mtJ x y sx sy x' y' sx' sy') el) = mtPx x y sx sy x' y' sx' sy' el := rfl
              have hPy : mP (mW (x' - x) (y' - y) (y' - y)) (mI (mtJ x y sx sy x' y' sx' sy') el) = mtPy x y sx sy x' y' sx' sy' el := rfl
              rw [hPx, hPy]
              have px := M.px hj
              have py := M.py hj
              have s1 := A.sx
              have s2 := A.sy
              have s3 := B.sx
              have s4 := B.sy
              have q1 := mi_small (x := sx) (y := sy) (B := 262144000) (by omega) (by omega) (by omega) px py
              have q2 := pl_small (x := sx') (y := sy') (B := 262144000) (by omega) (by omega) (by omega) px py
              unfold mt7
              rw [badK_0 _ _ _ _ q1.1, q1.2.1, q1.2.2]
              unfold mt8
              rw [badK_0 _ _ _ _ q2.1, q2.2.1, q2.2.2]
              unfold mt9 mtFit
              cases bodB t n x y (sx - mtPx x y sx sy x' y' sx' sy' el) (sy - mtPy x y sx sy x' y' sx' sy' el) sp
              · rfl
              · cases bodB t' n' x' y' (sx' + mtPx x y sx sy x' y' sx' sy' el) (sy' + mtPy x y sx sy x' y' sx' sy' el) sp' <;> rfl
            · rw [decide_eq_true (show mtJ x y sx sy x' y' sx' sy' ≤ 0 by omega), decide_eq_false hj, cond_true, cond_false]
        · rw [decide_eq_true e1, decide_eq_false e2]; rfl
      · rw [decide_eq_false e1]; rfl

noncomputable def meetS : Fsp := fun _ args k => match args with
  | [.agg [.int .i64 t, .int .i64 n, .int .i64 x, .int .i64 y, .int .i64 sx, .int .i64 sy, .int .i64 sp, .bool o], .agg [.int .i64 t', .int .i64 n', .int .i64 x', .int .i64 y', .int .i64 sx', .int .i64 sy', .int .i64 sp', .bool o'], .int .i64 el] =>
    meetR t n x y sx sy sp o t' n' x' y' sx' sy' sp' o' el k
  | _ => none
theorem meetS_ok : FspOk Tryz.prog 15 meetS := tower_S fsH_ok spC_ok ⟨Tryz.func15, fun _ _ => by kernel_rfl⟩ (by intro α args k; unfold meetS; split <;> simp only [meetR, cond_bind, Option.bind_some, Option.bind_none]) fun args out hs h => by
  unfold meetS at h
  split at h
  · exact ⟨8, 5, (meet_text 8 0 AOut _ _ _ _ _ _ _ _ _ _ _ _ _ _ _ _ _ some).trans ((meet_fin ..).trans h)⟩
  · cases h
end Go.Proofs.YtgdoeplegcaliaaGreat

/- The reference's layer 5: over a line, Touch. -/
namespace Go.Proofs.YtgdoeplegcaliaaGreat
open Go.RowKit

noncomputable def fnN : FuncId → Option Fsp := fun g => if g = 115 then some rspotS else if g = 43 then some rtouchS else if g = 42 then some rbodyS else fnM g
theorem fnN_ok : FsOk fnN := fs_cons rspotS_ok (fs_cons rtouchS_ok (fs_cons rbodyS_ok fnM_ok))
abbrev bodN (t n x y sx sy sp : Int) (o : Bool) : AVal := .agg [iN t, iN n, iN x, iN y, iN sx, iN sy, iN sp, bN o]
--TEXT rgone | twT fnN (fun _ => none) | 4 | besom/besomref05.Gone | (t n x y sx sy sp : Int) (o : Bool) | bodN t n x y sx sy sp o
--KEY c64aa83dbc
set_option maxRecDepth 100000 in
theorem rgone_text (N n0 : Nat) (α : Type) (t n x y sx sy sp : Int) (o : Bool) (k : AOut → Option α) : evFn real tab ((twT fnN (fun _ => none)).env real tab N (n0 + 4)) N Tryz.f14 α [bodN t n x y sx sy sp o] k =
  bif !rbodB t n x y sx sy sp then k (AOut.ret (AVal.tup [AVal.bool false, AVal.int IntKind.i64 2]))
  else
    bif decide (x ≥ 146145280) then k (AOut.ret (AVal.tup [AVal.bool true, AVal.int IntKind.i64 0]))
    else
      bif decide (x ≤ IntKind.i64.wrap (0 - 146145280)) then
        k (AOut.ret (AVal.tup [AVal.bool true, AVal.int IntKind.i64 0]))
      else
        bif decide (y > 129368064) then k (AOut.ret (AVal.tup [AVal.bool true, AVal.int IntKind.i64 0]))
        else k (AOut.ret (AVal.tup [AVal.bool (decide (y < -1977417728)), AVal.int IntKind.i64 0])) := by kernel_rfl
--END
--TEXT rtch | twT fnN (fun _ => none) | 4 | besom/besomref05.Touch | (t n x y sx sy sp : Int) (o : Bool) (t' n' x' y' sx' sy' sp' : Int) (o' : Bool) | bodN t n x y sx sy sp o, bodN t' n' x' y' sx' sy' sp' o'
--KEY 0fd655eea7
set_option maxRecDepth 100000 in
theorem rtch_text (N n0 : Nat) (α : Type) (t n x y sx sy sp : Int) (o : Bool) (t' n' x' y' sx' sy' sp' : Int) (o' : Bool) (k : AOut → Option α) : evFn real tab ((twT fnN (fun _ => none)).env real tab N (n0 + 4)) N Tryz.f12 α [bodN t n x y sx sy sp o, bodN t' n' x' y' sx' sy' sp' o'] k =
  bif !rbodB t n x y sx sy sp then k (AOut.ret (AVal.tup [AVal.bool false, AVal.int IntKind.i64 2]))
  else
    bif !rbodB t' n' x' y' sx' sy' sp' then k (AOut.ret (AVal.tup [AVal.bool false, AVal.int IntKind.i64 2]))
    else
      bif rspoB x y && rspoB x' y' then k (AOut.ret (AVal.tup [AVal.bool (rtchB x y x' y' o o'), AVal.int IntKind.i64 0]))
      else none := by kernel_rfl
--END
--TEXT rmeet0 | twT fnN (fun _ => none) | 4 | besom/besomref05.meet | (t n x y sx sy sp : Int) (o : Bool) (t' n' x' y' sx' sy' sp' : Int) (o' : Bool) (el : Int) | bodN t n x y sx sy sp o, bodN t' n' x' y' sx' sy' sp' o', iN el
--KEY 0e716f9304
set_option maxRecDepth 100000 in
theorem rmeet0_text (N n0 : Nat) (α : Type) (t n x y sx sy sp : Int) (o : Bool) (t' n' x' y' sx' sy' sp' : Int) (o' : Bool) (el : Int) (k : AOut → Option α) : evFn real tab ((twT fnN (fun _ => none)).env real tab N (n0 + 4)) N Tryz.f51 α [bodN t n x y sx sy sp o, bodN t' n' x' y' sx' sy' sp' o', iN el] k =
  bif
      decide
        (dotV (IntKind.i64.wrap (sx - sx')) (IntKind.i64.wrap (sy - sy'))
            (uniV (IntKind.i64.wrap (x' - x)) (IntKind.i64.wrap (y' - y)) (IntKind.i64.wrap (x' - x)))
            (uniV (IntKind.i64.wrap (x' - x)) (IntKind.i64.wrap (y' - y)) (IntKind.i64.wrap (y' - y))) 1 ≤
          0) then
    k
      (AOut.ret
        (AVal.tup
          [AVal.agg
              [AVal.int IntKind.i64 t, AVal.int IntKind.i64 n, AVal.int IntKind.i64 x, AVal.int IntKind.i64 y,
                AVal.int IntKind.i64 sx, AVal.int IntKind.i64 sy, AVal.int IntKind.i64 sp, AVal.bool o,
                AVal.int IntKind.i64 t', AVal.int IntKind.i64 n', AVal.int IntKind.i64 x', AVal.int IntKind.i64 y',
                AVal.int IntKind.i64 sx', AVal.int IntKind.i64 sy', AVal.int IntKind.i64 sp', AVal.bool o',
                AVal.bool false],
            AVal.int IntKind.i64 0]))
  else
    bif
        !rbodB t n x y
            (IntKind.i64.wrap
              (sx -
                twoV
                  (mulE (uniV (IntKind.i64.wrap (x' - x)) (IntKind.i64.wrap (y' - y)) (IntKind.i64.wrap (x' - x)))
                    (scV
                      (dotV (IntKind.i64.wrap (sx - sx')) (IntKind.i64.wrap (sy - sy'))
                        (uniV (IntKind.i64.wrap (x' - x)) (IntKind.i64.wrap (y' - y)) (IntKind.i64.wrap (x' - x)))
                        (uniV (IntKind.i64.wrap (x' - x)) (IntKind.i64.wrap (y' - y)) (IntKind.i64.wrap (y' - y))) 1)
                      (IntKind.i64.wrap (1000 + el)) 2000 0)
                    0)
                  (mulE (uniV (IntKind.i64.wrap (x' - x)) (IntKind.i64.wrap (y' - y)) (IntKind.i64.wrap (y' - y)))
                    (scV
                      (dotV (IntKind.i64.wrap (sx - sx')) (IntKind.i64.wrap (sy - sy'))
                        (uniV (IntKind.i64.wrap (x' - x)) (IntKind.i64.wrap (y' - y)) (IntKind.i64.wrap (x' - x)))
                        (uniV (IntKind.i64.wrap (x' - x)) (IntKind.i64.wrap (y' - y)) (IntKind.i64.wrap (y' - y))) 1)
                      (IntKind.i64.wrap (1000 + el)) 2000 0)
                    0)
                  (mulV (uniV (IntKind.i64.wrap (x' - x)) (IntKind.i64.wrap (y' - y)) (IntKind.i64.wrap (x' - x)))
                    (scV
                      (dotV (IntKind.i64.wrap (sx - sx')) (IntKind.i64.wrap (sy - sy'))
                        (uniV (IntKind.i64.wrap (x' - x)) (IntKind.i64.wrap (y' - y)) (IntKind.i64.wrap (x' - x)))
                        (uniV (IntKind.i64.wrap (x' - x)) (IntKind.i64.wrap (y' - y)) (IntKind.i64.wrap (y' - y))) 1)
                      (IntKind.i64.wrap (1000 + el)) 2000 0)
                    0)))
            (IntKind.i64.wrap
              (sy -
                twoV
                  (mulE (uniV (IntKind.i64.wrap (x' - x)) (IntKind.i64.wrap (y' - y)) (IntKind.i64.wrap (x' - x)))
                    (scV
                      (dotV (IntKind.i64.wrap (sx - sx')) (IntKind.i64.wrap (sy - sy'))
                        (uniV (IntKind.i64.wrap (x' - x)) (IntKind.i64.wrap (y' - y)) (IntKind.i64.wrap (x' - x)))
                        (uniV (IntKind.i64.wrap (x' - x)) (IntKind.i64.wrap (y' - y)) (IntKind.i64.wrap (y' - y))) 1)
                      (IntKind.i64.wrap (1000 + el)) 2000 0)
                    0)
                  (mulE (uniV (IntKind.i64.wrap (x' - x)) (IntKind.i64.wrap (y' - y)) (IntKind.i64.wrap (y' - y)))
                    (scV
                      (dotV (IntKind.i64.wrap (sx - sx')) (IntKind.i64.wrap (sy - sy'))
                        (uniV (IntKind.i64.wrap (x' - x)) (IntKind.i64.wrap (y' - y)) (IntKind.i64.wrap (x' - x)))
                        (uniV (IntKind.i64.wrap (x' - x)) (IntKind.i64.wrap (y' - y)) (IntKind.i64.wrap (y' - y))) 1)
                      (IntKind.i64.wrap (1000 + el)) 2000 0)
                    0)
                  (mulV (uniV (IntKind.i64.wrap (x' - x)) (IntKind.i64.wrap (y' - y)) (IntKind.i64.wrap (y' - y)))
                    (scV
                      (dotV (IntKind.i64.wrap (sx - sx')) (IntKind.i64.wrap (sy - sy'))
                        (uniV (IntKind.i64.wrap (x' - x)) (IntKind.i64.wrap (y' - y)) (IntKind.i64.wrap (x' - x)))
                        (uniV (IntKind.i64.wrap (x' - x)) (IntKind.i64.wrap (y' - y)) (IntKind.i64.wrap (y' - y))) 1)
                      (IntKind.i64.wrap (1000 + el)) 2000 0)
                    0)))
            sp then
      k
        (AOut.ret
          (AVal.tup
            [AVal.agg
                [AVal.int IntKind.i64 0, AVal.int IntKind.i64 0, AVal.int IntKind.i64 0, AVal.int IntKind.i64 0,
                  AVal.int IntKind.i64 0, AVal.int IntKind.i64 0, AVal.int IntKind.i64 0, AVal.bool false,
                  AVal.int IntKind.i64 0, AVal.int IntKind.i64 0, AVal.int IntKind.i64 0, AVal.int IntKind.i64 0,
                  AVal.int IntKind.i64 0, AVal.int IntKind.i64 0, AVal.int IntKind.i64 0, AVal.bool false,
                  AVal.bool false],
              AVal.int IntKind.i64 4]))
    else
      bif
          !rbodB t' n' x' y'
              (IntKind.i64.wrap
                (sx' +
                  twoV
                    (mulE (uniV (IntKind.i64.wrap (x' - x)) (IntKind.i64.wrap (y' - y)) (IntKind.i64.wrap (x' - x)))
                      (scV
                        (dotV (IntKind.i64.wrap (sx - sx')) (IntKind.i64.wrap (sy - sy'))
                          (uniV (IntKind.i64.wrap (x' - x)) (IntKind.i64.wrap (y' - y)) (IntKind.i64.wrap (x' - x)))
                          (uniV (IntKind.i64.wrap (x' - x)) (IntKind.i64.wrap (y' - y)) (IntKind.i64.wrap (y' - y))) 1)
                        (IntKind.i64.wrap (1000 + el)) 2000 0)
                      0)
                    (mulE (uniV (IntKind.i64.wrap (x' - x)) (IntKind.i64.wrap (y' - y)) (IntKind.i64.wrap (y' - y)))
                      (scV
                        (dotV (IntKind.i64.wrap (sx - sx')) (IntKind.i64.wrap (sy - sy'))
                          (uniV (IntKind.i64.wrap (x' - x)) (IntKind.i64.wrap (y' - y)) (IntKind.i64.wrap (x' - x)))
                          (uniV (IntKind.i64.wrap (x' - x)) (IntKind.i64.wrap (y' - y)) (IntKind.i64.wrap (y' - y))) 1)
                        (IntKind.i64.wrap (1000 + el)) 2000 0)
                      0)
                    (mulV (uniV (IntKind.i64.wrap (x' - x)) (IntKind.i64.wrap (y' - y)) (IntKind.i64.wrap (x' - x)))
                      (scV
                        (dotV (IntKind.i64.wrap (sx - sx')) (IntKind.i64.wrap (sy - sy'))
                          (uniV (IntKind.i64.wrap (x' - x)) (IntKind.i64.wrap (y' - y)) (IntKind.i64.wrap (x' - x)))
                          (uniV (IntKind.i64.wrap (x' - x)) (IntKind.i64.wrap (y' - y)) (IntKind.i64.wrap (y' - y))) 1)
                        (IntKind.i64.wrap (1000 + el)) 2000 0)
                      0)))
              (IntKind.i64.wrap
                (sy' +
                  twoV
                    (mulE (uniV (IntKind.i64.wrap (x' - x)) (IntKind.i64.wrap (y' - y)) (IntKind.i64.wrap (x' - x)))
                      (scV
                        (dotV (IntKind.i64.wrap (sx - sx')) (IntKind.i64.wrap (sy - sy'))
                          (uniV (IntKind.i64.wrap (x' - x)) (IntKind.i64.wrap (y' - y)) (IntKind.i64.wrap (x' - x)))
                          (uniV (IntKind.i64.wrap (x' - x)) (IntKind.i64.wrap (y' - y)) (IntKind.i64.wrap (y' - y))) 1)
                        (IntKind.i64.wrap (1000 + el)) 2000 0)
                      0)
                    (mulE (uniV (IntKind.i64.wrap (x' - x)) (IntKind.i64.wrap (y' - y)) (IntKind.i64.wrap (y' - y)))
                      (scV
                        (dotV (IntKind.i64.wrap (sx - sx')) (IntKind.i64.wrap (sy - sy'))
                          (uniV (IntKind.i64.wrap (x' - x)) (IntKind.i64.wrap (y' - y)) (IntKind.i64.wrap (x' - x)))
                          (uniV (IntKind.i64.wrap (x' - x)) (IntKind.i64.wrap (y' - y)) (IntKind.i64.wrap (y' - y))) 1)
                        (IntKind.i64.wrap (1000 + el)) 2000 0)
                      0)
                    (mulV (uniV (IntKind.i64.wrap (x' - x)) (IntKind.i64.wrap (y' - y)) (IntKind.i64.wrap (y' - y)))
                      (scV
                        (dotV (IntKind.i64.wrap (sx - sx')) (IntKind.i64.wrap (sy - sy'))
                          (uniV (IntKind.i64.wrap (x' - x)) (IntKind.i64.wrap (y' - y)) (IntKind.i64.wrap (x' - x)))
                          (uniV (IntKind.i64.wrap (x' - x)) (IntKind.i64.wrap (y' - y)) (IntKind.i64.wrap (y' - y))) 1)
                        (IntKind.i64.wrap (1000 + el)) 2000 0)
                      0)))
              sp' then
        k
          (AOut.ret
            (AVal.tup
              [AVal.agg
                  [AVal.int IntKind.i64 0, AVal.int IntKind.i64 0, AVal.int IntKind.i64 0, AVal.int IntKind.i64 0,
                    AVal.int IntKind.i64 0, AVal.int IntKind.i64 0, AVal.int IntKind.i64 0, AVal.bool false,
                    AVal.int IntKind.i64 0, AVal.int IntKind.i64 0, AVal.int IntKind.i64 0, AVal.int IntKind.i64 0,
                    AVal.int IntKind.i64 0, AVal.int IntKind.i64 0, AVal.int IntKind.i64 0, AVal.bool false,
                    AVal.bool false],
                AVal.int IntKind.i64 4]))
      else
        k
          (AOut.ret
            (AVal.tup
              [AVal.agg
                  [AVal.int IntKind.i64 t, AVal.int IntKind.i64 n, AVal.int IntKind.i64 x, AVal.int IntKind.i64 y,
                    AVal.int IntKind.i64
                      (IntKind.i64.wrap
                        (sx -
                          twoV
                            (mulE
                              (uniV (IntKind.i64.wrap (x' - x)) (IntKind.i64.wrap (y' - y)) (IntKind.i64.wrap (x' - x)))
                              (scV
                                (dotV (IntKind.i64.wrap (sx - sx')) (IntKind.i64.wrap (sy - sy'))
                                  (uniV (IntKind.i64.wrap (x' - x)) (IntKind.i64.wrap (y' - y))
                                    (IntKind.i64.wrap (x' - x)))
                                  (uniV (IntKind.i64.wrap (x' - x)) (IntKind.i64.wrap (y' - y))
                                    (IntKind.i64.wrap (y' - y)))
                                  1)
                                (IntKind.i64.wrap (1000 + el)) 2000 0)
                              0)
                            (mulE
                              (uniV (IntKind.i64.wrap (x' - x)) (IntKind.i64.wrap (y' - y)) (IntKind.i64.wrap (y' - y)))
                              (scV
                                (dotV (IntKind.i64.wrap (sx - sx')) (IntKind.i64.wrap (sy - sy'))
                                  (uniV (IntKind.i64.wrap (x' - x)) (IntKind.i64.wrap (y' - y))
                                    (IntKind.i64.wrap (x' - x)))
                                  (uniV (IntKind.i64.wrap (x' - x)) (IntKind.i64.wrap (y' - y))
                                    (IntKind.i64.wrap (y' - y)))
                                  1)
                                (IntKind.i64.wrap (1000 + el)) 2000 0)
                              0)
                            (mulV
                              (uniV (IntKind.i64.wrap (x' - x)) (IntKind.i64.wrap (y' - y)) (IntKind.i64.wrap (x' - x)))
                              (scV
                                (dotV (IntKind.i64.wrap (sx - sx')) (IntKind.i64.wrap (sy - sy'))
                                  (uniV (IntKind.i64.wrap (x' - x)) (IntKind.i64.wrap (y' - y))
                                    (IntKind.i64.wrap (x' - x)))
                                  (uniV (IntKind.i64.wrap (x' - x)) (IntKind.i64.wrap (y' - y))
                                    (IntKind.i64.wrap (y' - y)))
                                  1)
                                (IntKind.i64.wrap (1000 + el)) 2000 0)
                              0))),
                    AVal.int IntKind.i64
                      (IntKind.i64.wrap
                        (sy -
                          twoV
                            (mulE
                              (uniV (IntKind.i64.wrap (x' - x)) (IntKind.i64.wrap (y' - y)) (IntKind.i64.wrap (x' - x)))
                              (scV
                                (dotV (IntKind.i64.wrap (sx - sx')) (IntKind.i64.wrap (sy - sy'))
                                  (uniV (IntKind.i64.wrap (x' - x)) (IntKind.i64.wrap (y' - y))
                                    (IntKind.i64.wrap (x' - x)))
                                  (uniV (IntKind.i64.wrap (x' - x)) (IntKind.i64.wrap (y' - y))
                                    (IntKind.i64.wrap (y' - y)))
                                  1)
                                (IntKind.i64.wrap (1000 + el)) 2000 0)
                              0)
                            (mulE
                              (uniV (IntKind.i64.wrap (x' - x)) (IntKind.i64.wrap (y' - y)) (IntKind.i64.wrap (y' - y)))
                              (scV
                                (dotV (IntKind.i64.wrap (sx - sx')) (IntKind.i64.wrap (sy - sy'))
                                  (uniV (IntKind.i64.wrap (x' - x)) (IntKind.i64.wrap (y' - y))
                                    (IntKind.i64.wrap (x' - x)))
                                  (uniV (IntKind.i64.wrap (x' - x)) (IntKind.i64.wrap (y' - y))
                                    (IntKind.i64.wrap (y' - y)))
                                  1)
                                (IntKind.i64.wrap (1000 + el)) 2000 0)
                              0)
                            (mulV
                              (uniV (IntKind.i64.wrap (x' - x)) (IntKind.i64.wrap (y' - y)) (IntKind.i64.wrap (y' - y)))
                              (scV
                                (dotV (IntKind.i64.wrap (sx - sx')) (IntKind.i64.wrap (sy - sy'))
                                  (uniV (IntKind.i64.wrap (x' - x)) (IntKind.i64.wrap (y' - y))
                                    (IntKind.i64.wrap (x' - x)))
                                  (uniV (IntKind.i64.wrap (x' - x)) (IntKind.i64.wrap (y' - y))
                                    (IntKind.i64.wrap (y' - y)))
                                  1)
                                (IntKind.i64.wrap (1000 + el)) 2000 0)
                              0))),
                    AVal.int IntKind.i64 sp, AVal.bool o, AVal.int IntKind.i64 t', AVal.int IntKind.i64 n',
                    AVal.int IntKind.i64 x', AVal.int IntKind.i64 y',
                    AVal.int IntKind.i64
                      (IntKind.i64.wrap
                        (sx' +
                          twoV
                            (mulE
                              (uniV (IntKind.i64.wrap (x' - x)) (IntKind.i64.wrap (y' - y)) (IntKind.i64.wrap (x' - x)))
                              (scV
                                (dotV (IntKind.i64.wrap (sx - sx')) (IntKind.i64.wrap (sy - sy'))
                                  (uniV (IntKind.i64.wrap (x' - x)) (IntKind.i64.wrap (y' - y))
                                    (IntKind.i64.wrap (x' - x)))
                                  (uniV (IntKind.i64.wrap (x' - x)) (IntKind.i64.wrap (y' - y))
                                    (IntKind.i64.wrap (y' - y)))
                                  1)
                                (IntKind.i64.wrap (1000 + el)) 2000 0)
                              0)
                            (mulE
                              (uniV (IntKind.i64.wrap (x' - x)) (IntKind.i64.wrap (y' - y)) (IntKind.i64.wrap (y' - y)))
                              (scV
                                (dotV (IntKind.i64.wrap (sx - sx')) (IntKind.i64.wrap (sy - sy'))
                                  (uniV (IntKind.i64.wrap (x' - x)) (IntKind.i64.wrap (y' - y))
                                    (IntKind.i64.wrap (x' - x)))
                                  (uniV (IntKind.i64.wrap (x' - x)) (IntKind.i64.wrap (y' - y))
                                    (IntKind.i64.wrap (y' - y)))
                                  1)
                                (IntKind.i64.wrap (1000 + el)) 2000 0)
                              0)
                            (mulV
                              (uniV (IntKind.i64.wrap (x' - x)) (IntKind.i64.wrap (y' - y)) (IntKind.i64.wrap (x' - x)))
                              (scV
                                (dotV (IntKind.i64.wrap (sx - sx')) (IntKind.i64.wrap (sy - sy'))
                                  (uniV (IntKind.i64.wrap (x' - x)) (IntKind.i64.wrap (y' - y))
                                    (IntKind.i64.wrap (x' - x)))
                                  (uniV (IntKind.i64.wrap (x' - x)) (IntKind.i64.wrap (y' - y))
                                    (IntKind.i64.wrap (y' - y)))
                                  1)
                                (IntKind.i64.wrap (1000 + el)) 2000 0)
                              0))),
                    AVal.int IntKind.i64
                      (IntKind.i64.wrap
                        (sy' +
                          twoV
                            (mulE
                              (uniV (IntKind.i64.wrap (x' - x)) (IntKind.i64.wrap (y' - y)) (IntKind.i64.wrap (x' - x)))
                              (scV
                                (dotV (IntKind.i64.wrap (sx - sx')) (IntKind.i64.wrap (sy - sy'))
                                  (uniV (IntKind.i64.wrap (x' - x)) (IntKind.i64.wrap (y' - y))
                                    (IntKind.i64.wrap (x' - x)))
                                  (uniV (IntKind.i64.wrap (x' - x)) (IntKind.i64.wrap (y' - y))
                                    (IntKind.i64.wrap (y' - y)))
                                  1)
                                (IntKind.i64.wrap (1000 + el)) 2000 0)
                              0)
                            (mulE
                              (uniV (IntKind.i64.wrap (x' - x)) (IntKind.i64.wrap (y' - y)) (IntKind.i64.wrap (y' - y)))
                              (scV
                                (dotV (IntKind.i64.wrap (sx - sx')) (IntKind.i64.wrap (sy - sy'))
                                  (uniV (IntKind.i64.wrap (x' - x)) (IntKind.i64.wrap (y' - y))
                                    (IntKind.i64.wrap (x' - x)))
                                  (uniV (IntKind.i64.wrap (x' - x)) (IntKind.i64.wrap (y' - y))
                                    (IntKind.i64.wrap (y' - y)))
                                  1)
                                (IntKind.i64.wrap (1000 + el)) 2000 0)
                              0)
                            (mulV
                              (uniV (IntKind.i64.wrap (x' - x)) (IntKind.i64.wrap (y' - y)) (IntKind.i64.wrap (y' - y)))
                              (scV
                                (dotV (IntKind.i64.wrap (sx - sx')) (IntKind.i64.wrap (sy - sy'))
                                  (uniV (IntKind.i64.wrap (x' - x)) (IntKind.i64.wrap (y' - y))
                                    (IntKind.i64.wrap (x' - x)))
                                  (uniV (IntKind.i64.wrap (x' - x)) (IntKind.i64.wrap (y' - y))
                                    (IntKind.i64.wrap (y' - y)))
                                  1)
                                (IntKind.i64.wrap (1000 + el)) 2000 0)
                              0))),
                    AVal.int IntKind.i64 sp', AVal.bool o', AVal.bool true],
                AVal.int IntKind.i64 0])) := by kernel_rfl
--END

/-- Is a place over a line? -/
def gonB (x y : Int) : Bool := decide (x ≥ 146145280) || (decide (x ≤ -146145280) || (decide (y > 129368064) || decide (y < -1977417728)))
theorem rbod_eq (t n x y sx sy sp : Int) : rbodB t n x y sx sy sp = bodB t n x y sx sy sp := by
  rw [Bool.eq_iff_iff, bod_is]
  simp only [rbodB, Bool.and_eq_true, decide_eq_true_eq]
  exact ⟨fun h => by obtain ⟨a, b, c, d, e, f, g, h, i, j, k, l, m, n⟩ := h; exact ⟨⟨a, b⟩, ⟨c, d⟩, ⟨i, j⟩, ⟨k, l⟩, ⟨e, g⟩, ⟨f, h⟩, ⟨m, n⟩⟩, fun h => ⟨h.t.1, h.t.2, h.n.1, h.n.2, h.sx.1, h.sy.1, h.sx.2, h.sy.2, h.x.1, h.x.2, h.y.1, h.y.2, h.sp.1, h.sp.2⟩⟩
theorem rspo_of {t n x y sx sy sp : Int} (h : BodIs t n x y sx sy sp) : rspoB x y = true := rspo_iff.2 ⟨h.x, h.y⟩
theorem or_k {α : Type} (a b : Bool) (e : Int) (k : AOut → Option α) : (bif a then k (b2 true e) else k (b2 b e)) = k (b2 (a || b) e) := by cases a <;> rfl

/-- The error of what is valid, or not. -/
def vldE (b : Bool) : Int := bif b then 0 else 2
def rgoneS : Fsp := fun _ args k => match args with
  | [.agg [.int .i64 t, .int .i64 n, .int .i64 x, .int .i64 y, .int .i64 sx, .int .i64 sy, .int .i64 sp, .bool _]] => k (b2 (bodB t n x y sx sy sp && gonB x y) (vldE (bodB t n x y sx sy sp)))
  | _ => none
theorem rgoneS_ok : FspOk Tryz.prog 14 rgoneS := tower_S fnN_ok sp_nil ⟨Tryz.func14, fun _ _ => by kernel_rfl⟩ (by intro α args k; unfold rgoneS; split <;> rfl) fun args out hs h => by
  unfold rgoneS at h
  split at h
  · rename_i t n x y sx sy sp o
    refine ⟨1, 4, (rgone_text 1 0 AOut t n x y sx sy sp o some).trans (Eq.trans ?_ h)⟩
    rw [rbod_eq, w64 (0 - 146145280) (by omega)]
    cases bodB t n x y sx sy sp
    · rfl
    · simp only [show ∀ (b : Bool) (e : Int), AOut.ret (AVal.tup [AVal.bool b, AVal.int IntKind.i64 e]) = b2 b e from fun _ _ => rfl, Bool.not_true, cond_false, cond_true, or_k, Bool.true_and]
      rfl
  · cases h
theorem tch_eq {t n x y sx sy sp t' n' x' y' sx' sy' sp' : Int} (o o' : Bool) (a : BodIs t n x y sx sy sp) (b : BodIs t' n' x' y' sx' sy' sp') : rtchB x y x' y' o o' = tchB x y x' y' o o' := by
  have m1 := mi_small (B := 6553600000) (by omega) b.x b.y a.x a.y
  unfold rtchB tchB
  rw [m1.2.1, m1.2.2]
  cases o <;> cases o' <;> simp [bne, Bool.not_and]

def tchV (t n x y sx sy sp : Int) (o : Bool) (t' n' x' y' sx' sy' sp' : Int) (o' : Bool) : Bool := bodB t n x y sx sy sp && (bodB t' n' x' y' sx' sy' sp' && tchB x y x' y' o o')
def tchE (t n x y sx sy sp t' n' x' y' sx' sy' sp' : Int) : Int := bif bodB t n x y sx sy sp && bodB t' n' x' y' sx' sy' sp' then 0 else 2
def touchTS : Fsp := fun _ args k => match args with
  | [.agg [.int .i64 t, .int .i64 n, .int .i64 x, .int .i64 y, .int .i64 sx, .int .i64 sy, .int .i64 sp, .bool o], .agg [.int .i64 t', .int .i64 n', .int .i64 x', .int .i64 y', .int .i64 sx', .int .i64 sy', .int .i64 sp', .bool o']] =>
    k (b2 (tchV t n x y sx sy sp o t' n' x' y' sx' sy' sp' o') (tchE t n x y sx sy sp t' n' x' y' sx' sy' sp'))
  | _ => none
theorem rtouchTS_ok : FspOk Tryz.prog 12 touchTS := tower_S fnN_ok sp_nil ⟨Tryz.func12, fun _ _ => by kernel_rfl⟩ (by intro α args k; unfold touchTS; split <;> rfl) fun args out hs h => by
  unfold touchTS at h
  split at h
  · rename_i t n x y sx sy sp o t' n' x' y' sx' sy' sp' o'
    refine ⟨1, 4, (rtch_text 1 0 AOut t n x y sx sy sp o t' n' x' y' sx' sy' sp' o' some).trans (Eq.trans ?_ h)⟩
    unfold tchV tchE
    rw [rbod_eq, rbod_eq]
    cases ha : bodB t n x y sx sy sp
    · rfl
    · cases hb : bodB t' n' x' y' sx' sy' sp'
      · rfl
      · rw [rspo_of (bod_is.1 ha), rspo_of (bod_is.1 hb), tch_eq o o' (bod_is.1 ha) (bod_is.1 hb)]; rfl
  · cases h

/-! A contact. -/
theorem rdt_down {rx ry wx wy : Int} (hr : (-131072000 ≤ rx ∧ rx ≤ 131072000) ∧ (-131072000 ≤ ry ∧ ry ≤ 131072000)) (hw : (-65536 ≤ wx ∧ wx ≤ 65536) ∧ (-65536 ≤ wy ∧ wy ≤ 65536)) : dotV rx ry wx wy 1 = mJ rx ry wx wy := by
  have a := mul_bd hr.1 hw.1 (by omega)
  have b := mul_bd hr.2 hw.2 (by omega)
  have hs : ab (dotS rx ry wx wy) ≤ 262144000 * 65536 := ab_le.2 (by unfold dotS; omega)
  have hq := div_le (show (0 : Int) < 65536 by omega) hs
  have hd := rnd_down (s := dotS rx ry wx wy) (show (0 : Int) < 65536 by omega)
  have hle : dotN rx ry wx wy 1 ≤ 262144001 := by
    unfold dotN rnd
    cases up1 1 (ngB (dotS rx ry wx wy)) (ab (dotS rx ry wx wy) % 65536) 65536 <;> simp only [cond_true, cond_false] <;> omega
  unfold dotV dotB fxV
  rw [ok_le hr.1 (by omega), ok_le hr.2 (by omega), ok_le hw.1 (by omega), ok_le hw.2 (by omega), fx_of (by omega)]
  exact hd
theorem rsl_cut {j el : Int} (hj : 0 < j ∧ j ≤ 262144000) (he : 0 ≤ el ∧ el ≤ 1000) : scV j (1000 + el) 2000 0 = mI j el := by
  have e1 : ab j = j := by unfold ab; rw [if_neg (by omega)]
  have e2 : ab (1000 + el) = 1000 + el := by unfold ab; rw [if_neg (by omega)]
  have g : scG j (1000 + el) 2000 = false := by unfold scG ngB; rw [decide_eq_false (by omega), decide_eq_false (by omega)]; rfl
  have I := (sl_cut hj he).2.2
  have hP : scN j (1000 + el) 2000 0 = mI j el := by
    unfold scN
    rw [g, e1, e2, show ab 2000 = 2000 from rfl, rnd_cut]; rfl
  have hk : scB j (1000 + el) 2000 0 = true := by
    unfold scB; rw [ok_le (B := 262144000) (by omega) (by omega), rate_iff.2 (by omega), rate_iff.2 (by omega)]; rfl
  have hfx : fxB (mI j el) = true := fx_of (by omega)
  unfold scV fxV; rw [hk, hP, hfx, g]; rfl
theorem rmul_cut {w i : Int} (hw : -65536 ≤ w ∧ w ≤ 65536) (hi : 0 ≤ i ∧ i ≤ 262144000) : mulE w i 0 = 0 ∧ mulV w i 0 = mP w i := by
  have a := mP_in hw hi.1
  have e2 : ab i = i := by unfold ab; rw [if_neg (by omega)]
  have g : ngB i = false := decide_eq_false (by omega)
  have gx : xorB (ngB w) false = ngB w := by cases ngB w <;> rfl
  have hP : prN w i 0 = ab w * i / 65536 := by unfold prN; rw [e2, rnd_cut]
  have hB : mulB w i 0 = true := by unfold mulB; rw [ok_le hw (by omega), ok_le (B := 262144000) (by omega) (by omega)]; rfl
  have hf : fxB (ab w * i / 65536) = true := fx_of (by omega)
  refine ⟨?_, ?_⟩
  · unfold mulE fxE; rw [hB, hP, hf]; rfl
  · unfold mulV fxV; rw [hB, hP, hf, g, gx]; rfl

/-- Of what comes of a contact: nothing, what was, what is new. -/
def mrG {β : Type} (ok go fit : Bool) (z a b : β) : β := bif ok then (bif go then (bif fit then b else z) else a) else z
abbrev mpN (t n x y sx sy sp : Int) (o : Bool) (t' n' x' y' sx' sy' sp' : Int) (o' m : Bool) : AVal := .agg [iN t, iN n, iN x, iN y, iN sx, iN sy, iN sp, bN o, iN t', iN n', iN x', iN y', iN sx', iN sy', iN sp', bN o', bN m]
noncomputable def rmeet0S : Fsp := fun _ args k => match args with
  | [.agg [.int .i64 t, .int .i64 n, .int .i64 x, .int .i64 y, .int .i64 sx, .int .i64 sy, .int .i64 sp, .bool o], .agg [.int .i64 t', .int .i64 n', .int .i64 x', .int .i64 y', .int .i64 sx', .int .i64 sy', .int .i64 sp', .bool o'], .int .i64 el] =>
    bif mtOk t n x y sx sy sp t' n' x' y' sx' sy' sp' el && tchB x y x' y' o o' then
      bif decide (0 < mtJ x y sx sy x' y' sx' sy') then
        bif mtFit t n x y sx sy sp t' n' x' y' sx' sy' sp' el then
          k (.ret (.tup [mpN t n x y (sx - mtPx x y sx sy x' y' sx' sy' el) (sy - mtPy x y sx sy x' y' sx' sy' el) sp o t' n' x' y' (sx' + mtPx x y sx sy x' y' sx' sy' el) (sy' + mtPy x y sx sy x' y' sx' sy' el) sp' o' true, iN 0]))
        else k (.ret (.tup [mpN 0 0 0 0 0 0 0 false 0 0 0 0 0 0 0 false false, iN 4]))
      else k (.ret (.tup [mpN t n x y sx sy sp o t' n' x' y' sx' sy' sp' o' false, iN 0]))
    else none
  | _ => none
theorem rmeet0S_ok : FspOk Tryz.prog 51 rmeet0S := tower_S fnN_ok sp_nil ⟨Tryz.func51, fun _ _ => by kernel_rfl⟩ (by intro α args k; unfold rmeet0S; split <;> simp only [cond_bind, Option.bind_some, Option.bind_none]) fun args out hs h => by
  unfold rmeet0S at h
  split at h
  · rename_i t n x y sx sy sp o t' n' x' y' sx' sy' sp' o' el
    cases hb : mtOk t n x y sx sy sp t' n' x' y' sx' sy' sp' el && tchB x y x' y' o o'
    · rw [hb] at h; cases h
    · rw [hb, cond_true] at h
      simp only [mtOk, Bool.and_eq_true, decide_eq_true_eq] at hb
      obtain ⟨⟨ha, hb, he⟩, ht⟩ := hb
      have A := bod_is.1 ha
      have B := bod_is.1 hb
      have M := mt_is A B he ht
      refine ⟨1, 4, (rmeet0_text 1 0 AOut t n x y sx sy sp o t' n' x' y' sx' sy' sp' o' el some).trans (Eq.trans ?_ h)⟩
      have a1 := A.x
      have a2 := A.y
      have b1 := B.x
      have b2 := B.y
      have s1 := A.sx
      have s2 := A.sy
      have s3 := B.sx
      have s4 := B.sy
      rw [w64 (x' - x) (by omega), w64 (y' - y) (by omega), w64 (sx - sx') (by omega), w64 (sy - sy') (by omega), w64 (1000 + el) (by omega), M.way.vx, M.way.vy]
      rw [rdt_down (rx := sx - sx') (ry := sy - sy') ⟨by omega, by omega⟩ ⟨M.way.wx, M.way.wy⟩]
      have hJ : mJ (sx - sx') (sy - sy') (mW (x' - x) (y' - y) (x' - x)) (mW (x' - x) (y' - y) (y' - y)) = mtJ x y sx sy x' y' sx' sy' := rfl
      rw [hJ]
      by_cases hj : 0 < mtJ x y sx sy x' y' sx' sy'
      · rw [decide_eq_false (show ¬ mtJ x y sx sy x' y' sx' sy' ≤ 0 by omega), decide_eq_true hj, cond_false, cond_true]
        have I := M.i hj
        rw [rsl_cut ⟨hj, M.j.2⟩ he]
        have i2 := Int.le_trans I.2 M.j.2
        rw [(rmul_cut M.way.wx ⟨I.1, i2⟩).1, (rmul_cut M.way.wy ⟨I.1, i2⟩).1, (rmul_cut M.way.wx ⟨I.1, i2⟩).2, (rmul_cut M.way.wy ⟨I.1, i2⟩).2]
        have hPx : mP (mW (x' - x) (y' - y) (x' - x)) (mI (mtJ x y sx sy x' y' sx' sy') el) = mtPx x y sx sy x' y' sx' sy' el := rfl
        have hPy : mP (mW (x' - x) (y' - y) (y' - y)) (mI (mtJ x y sx sy x' y' sx' sy') el) = mtPy x y sx sy x' y' sx' sy' el := rfl
        have tv : ∀ v, twoV 0 0 v = v := fun _ => rfl
        simp only [hPx, hPy, tv, rbod_eq]
        have px := M.px hj
        have py := M.py hj
        unfold mtFit
        rw [w64 (sx - _) (by omega), w64 (sy - _) (by omega), w64 (sx' + _) (by omega), w64 (sy' + _) (by omega)]
        cases bodB t n x y (sx - mtPx x y sx sy x' y' sx' sy' el) (sy - mtPy x y sx sy x' y' sx' sy' el) sp
        · rfl
        · cases bodB t' n' x' y' (sx' + mtPx x y sx sy x' y' sx' sy' el) (sy' + mtPy x y sx sy x' y' sx' sy' el) sp' <;> rfl
      · rw [decide_eq_true (show mtJ x y sx sy x' y' sx' sy' ≤ 0 by omega), decide_eq_false hj, cond_true, cond_false]
  · cases h
noncomputable def fnO : FuncId → Option Fsp := fun g => if g = 51 then some rmeet0S else if g = 12 then some touchTS else if g = 14 then some rgoneS else fnN g
theorem fnO_ok : FsOk fnO := fs_cons rmeet0S_ok (fs_cons rtouchTS_ok (fs_cons rgoneS_ok fnN_ok))
--TEXT rmeet | twT fnO (fun _ => none) | 4 | besom/besomref05.Meet | (t n x y sx sy sp : Int) (o : Bool) (t' n' x' y' sx' sy' sp' : Int) (o' : Bool) (el : Int) | bodN t n x y sx sy sp o, bodN t' n' x' y' sx' sy' sp' o', iN el
--KEY 3fe47eb482
set_option maxRecDepth 100000 in
theorem rmeet_text (N n0 : Nat) (α : Type) (t n x y sx sy sp : Int) (o : Bool) (t' n' x' y' sx' sy' sp' : Int) (o' : Bool) (el : Int) (k : AOut → Option α) : evFn real tab ((twT fnO (fun _ => none)).env real tab N (n0 + 4)) N Tryz.f16 α [bodN t n x y sx sy sp o, bodN t' n' x' y' sx' sy' sp' o', iN el] k =
  bif !rbodB t n x y sx sy sp then
    k
      (AOut.ret
        (AVal.tup
          [AVal.agg
              [AVal.int IntKind.i64 0, AVal.int IntKind.i64 0, AVal.int IntKind.i64 0, AVal.int IntKind.i64 0,
                AVal.int IntKind.i64 0, AVal.int IntKind.i64 0, AVal.int IntKind.i64 0, AVal.bool false,
                AVal.int IntKind.i64 0, AVal.int IntKind.i64 0, AVal.int IntKind.i64 0, AVal.int IntKind.i64 0,
                AVal.int IntKind.i64 0, AVal.int IntKind.i64 0, AVal.int IntKind.i64 0, AVal.bool false, AVal.bool false],
            AVal.int IntKind.i64 2]))
  else
    bif !rbodB t' n' x' y' sx' sy' sp' then
      k
        (AOut.ret
          (AVal.tup
            [AVal.agg
                [AVal.int IntKind.i64 0, AVal.int IntKind.i64 0, AVal.int IntKind.i64 0, AVal.int IntKind.i64 0,
                  AVal.int IntKind.i64 0, AVal.int IntKind.i64 0, AVal.int IntKind.i64 0, AVal.bool false,
                  AVal.int IntKind.i64 0, AVal.int IntKind.i64 0, AVal.int IntKind.i64 0, AVal.int IntKind.i64 0,
                  AVal.int IntKind.i64 0, AVal.int IntKind.i64 0, AVal.int IntKind.i64 0, AVal.bool false,
                  AVal.bool false],
              AVal.int IntKind.i64 2]))
    else
      bif decide (0 ≤ el) then
        bif !decide (el ≤ 1000) then
          k
            (AOut.ret
              (AVal.tup
                [AVal.agg
                    [AVal.int IntKind.i64 0, AVal.int IntKind.i64 0, AVal.int IntKind.i64 0, AVal.int IntKind.i64 0,
                      AVal.int IntKind.i64 0, AVal.int IntKind.i64 0, AVal.int IntKind.i64 0, AVal.bool false,
                      AVal.int IntKind.i64 0, AVal.int IntKind.i64 0, AVal.int IntKind.i64 0, AVal.int IntKind.i64 0,
                      AVal.int IntKind.i64 0, AVal.int IntKind.i64 0, AVal.int IntKind.i64 0, AVal.bool false,
                      AVal.bool false],
                  AVal.int IntKind.i64 2]))
        else
          bif rspoB x y && rspoB x' y' then
            bif !rtchB x y x' y' o o' then
              k
                (AOut.ret
                  (AVal.tup
                    [AVal.agg
                        [AVal.int IntKind.i64 t, AVal.int IntKind.i64 n, AVal.int IntKind.i64 x, AVal.int IntKind.i64 y,
                          AVal.int IntKind.i64 sx, AVal.int IntKind.i64 sy, AVal.int IntKind.i64 sp, AVal.bool o,
                          AVal.int IntKind.i64 t', AVal.int IntKind.i64 n', AVal.int IntKind.i64 x',
                          AVal.int IntKind.i64 y', AVal.int IntKind.i64 sx', AVal.int IntKind.i64 sy',
                          AVal.int IntKind.i64 sp', AVal.bool o', AVal.bool false],
                      AVal.int IntKind.i64 0]))
            else
              bif mtOk t n x y sx sy sp t' n' x' y' sx' sy' sp' el && tchB x y x' y' o o' then
                bif decide (0 < mtJ x y sx sy x' y' sx' sy') then
                  bif mtFit t n x y sx sy sp t' n' x' y' sx' sy' sp' el then
                    k
                      (AOut.ret
                        (AVal.tup
                          [AVal.agg
                              [AVal.int IntKind.i64 t, AVal.int IntKind.i64 n, AVal.int IntKind.i64 x,
                                AVal.int IntKind.i64 y, AVal.int IntKind.i64 (sx - mtPx x y sx sy x' y' sx' sy' el),
                                AVal.int IntKind.i64 (sy - mtPy x y sx sy x' y' sx' sy' el), AVal.int IntKind.i64 sp,
                                AVal.bool o, AVal.int IntKind.i64 t', AVal.int IntKind.i64 n', AVal.int IntKind.i64 x',
                                AVal.int IntKind.i64 y', AVal.int IntKind.i64 (sx' + mtPx x y sx sy x' y' sx' sy' el),
                                AVal.int IntKind.i64 (sy' + mtPy x y sx sy x' y' sx' sy' el), AVal.int IntKind.i64 sp',
                                AVal.bool o', AVal.bool true],
                            AVal.int IntKind.i64 0]))
                  else
                    k
                      (AOut.ret
                        (AVal.tup
                          [AVal.agg
                              [AVal.int IntKind.i64 0, AVal.int IntKind.i64 0, AVal.int IntKind.i64 0,
                                AVal.int IntKind.i64 0, AVal.int IntKind.i64 0, AVal.int IntKind.i64 0,
                                AVal.int IntKind.i64 0, AVal.bool false, AVal.int IntKind.i64 0, AVal.int IntKind.i64 0,
                                AVal.int IntKind.i64 0, AVal.int IntKind.i64 0, AVal.int IntKind.i64 0,
                                AVal.int IntKind.i64 0, AVal.int IntKind.i64 0, AVal.bool false, AVal.bool false],
                            AVal.int IntKind.i64 4]))
                else
                  k
                    (AOut.ret
                      (AVal.tup
                        [AVal.agg
                            [AVal.int IntKind.i64 t, AVal.int IntKind.i64 n, AVal.int IntKind.i64 x,
                              AVal.int IntKind.i64 y, AVal.int IntKind.i64 sx, AVal.int IntKind.i64 sy,
                              AVal.int IntKind.i64 sp, AVal.bool o, AVal.int IntKind.i64 t', AVal.int IntKind.i64 n',
                              AVal.int IntKind.i64 x', AVal.int IntKind.i64 y', AVal.int IntKind.i64 sx',
                              AVal.int IntKind.i64 sy', AVal.int IntKind.i64 sp', AVal.bool o', AVal.bool false],
                          AVal.int IntKind.i64 0]))
              else none
          else none
      else
        k
          (AOut.ret
            (AVal.tup
              [AVal.agg
                  [AVal.int IntKind.i64 0, AVal.int IntKind.i64 0, AVal.int IntKind.i64 0, AVal.int IntKind.i64 0,
                    AVal.int IntKind.i64 0, AVal.int IntKind.i64 0, AVal.int IntKind.i64 0, AVal.bool false,
                    AVal.int IntKind.i64 0, AVal.int IntKind.i64 0, AVal.int IntKind.i64 0, AVal.int IntKind.i64 0,
                    AVal.int IntKind.i64 0, AVal.int IntKind.i64 0, AVal.int IntKind.i64 0, AVal.bool false,
                    AVal.bool false],
                AVal.int IntKind.i64 2])) := by kernel_rfl
--END

/-- All that a contact comes to, by the fields. -/
noncomputable def mtR {β : Type} (t n x y sx sy sp : Int) (o : Bool) (t' n' x' y' sx' sy' sp' : Int) (o' : Bool) (el : Int) (z a b : β) : β :=
  mrG (mtOk t n x y sx sy sp t' n' x' y' sx' sy' sp' el) (mtGo x y sx sy o x' y' sx' sy' o') (mtFit t n x y sx sy sp t' n' x' y' sx' sy' sp' el) z a b
noncomputable def mtRe (t n x y sx sy sp : Int) (o : Bool) (t' n' x' y' sx' sy' sp' : Int) (o' : Bool) (el : Int) : Int :=
  bif mtOk t n x y sx sy sp t' n' x' y' sx' sy' sp' el then (bif mtGo x y sx sy o x' y' sx' sy' o' then (bif mtFit t n x y sx sy sp t' n' x' y' sx' sy' sp' el then 0 else 4) else 0) else 2
noncomputable def rmeetS : Fsp := fun _ args k => match args with
  | [.agg [.int .i64 t, .int .i64 n, .int .i64 x, .int .i64 y, .int .i64 sx, .int .i64 sy, .int .i64 sp, .bool o], .agg [.int .i64 t', .int .i64 n', .int .i64 x', .int .i64 y', .int .i64 sx', .int .i64 sy', .int .i64 sp', .bool o'], .int .i64 el] =>
    k (.ret (.tup [mpN (mtR t n x y sx sy sp o t' n' x' y' sx' sy' sp' o' el 0 t t) (mtR t n x y sx sy sp o t' n' x' y' sx' sy' sp' o' el 0 n n) (mtR t n x y sx sy sp o t' n' x' y' sx' sy' sp' o' el 0 x x) (mtR t n x y sx sy sp o t' n' x' y' sx' sy' sp' o' el 0 y y) (mtR t n x y sx sy sp o t' n' x' y' sx' sy' sp' o' el 0 sx (sx - mtPx x y sx sy x' y' sx' sy' el)) (mtR t n x y sx sy sp o t' n' x' y' sx' sy' sp' o' el 0 sy (sy - mtPy x y sx sy x' y' sx' sy' el)) (mtR t n x y sx sy sp o t' n' x' y' sx' sy' sp' o' el 0 sp sp) (mtR t n x y sx sy sp o t' n' x' y' sx' sy' sp' o' el false o o)
      (mtR t n x y sx sy sp o t' n' x' y' sx' sy' sp' o' el 0 t' t') (mtR t n x y sx sy sp o t' n' x' y' sx' sy' sp' o' el 0 n' n') (mtR t n x y sx sy sp o t' n' x' y' sx' sy' sp' o' el 0 x' x') (mtR t n x y sx sy sp o t' n' x' y' sx' sy' sp' o' el 0 y' y') (mtR t n x y sx sy sp o t' n' x' y' sx' sy' sp' o' el 0 sx' (sx' + mtPx x y sx sy x' y' sx' sy' el)) (mtR t n x y sx sy sp o t' n' x' y' sx' sy' sp' o' el 0 sy' (sy' + mtPy x y sx sy x' y' sx' sy' el)) (mtR t n x y sx sy sp o t' n' x' y' sx' sy' sp' o' el 0 sp' sp') (mtR t n x y sx sy sp o t' n' x' y' sx' sy' sp' o' el false o' o') (mtR t n x y sx sy sp o t' n' x' y' sx' sy' sp' o' el false false true), iN (mtRe t n x y sx sy sp o t' n' x' y' sx' sy' sp' o' el)]))
  | _ => none
theorem rmeetS_ok : FspOk Tryz.prog 16 rmeetS := tower_S fnO_ok sp_nil ⟨Tryz.func16, fun _ _ => by kernel_rfl⟩ (by intro α args k; unfold rmeetS; split <;> rfl) fun args out hs h => by
  unfold rmeetS at h
  split at h
  · rename_i t n x y sx sy sp o t' n' x' y' sx' sy' sp' o' el
    refine ⟨1, 4, (rmeet_text 1 0 AOut t n x y sx sy sp o t' n' x' y' sx' sy' sp' o' el some).trans (Eq.trans ?_ h)⟩
    unfold mtR mtRe mtGo
    have hok : mtOk t n x y sx sy sp t' n' x' y' sx' sy' sp' el = (bodB t n x y sx sy sp && (bodB t' n' x' y' sx' sy' sp' && (decide (0 ≤ el) && decide (el ≤ 1000)))) := rfl
    rw [hok, rbod_eq, rbod_eq]
    cases ha : bodB t n x y sx sy sp
    · rfl
    · cases hb : bodB t' n' x' y' sx' sy' sp'
      · rfl
      · cases h1 : decide (0 ≤ el)
        · rfl
        · cases h2 : decide (el ≤ 1000)
          · rfl
          · rw [rspo_of (bod_is.1 ha), rspo_of (bod_is.1 hb), tch_eq o o' (bod_is.1 ha) (bod_is.1 hb)]
            cases tchB x y x' y' o o'
            · rfl
            · cases decide (0 < mtJ x y sx sy x' y' sx' sy')
              · rfl
              · cases mtFit t n x y sx sy sp t' n' x' y' sx' sy' sp' el <;> rfl
  · cases h
noncomputable def fnP : FuncId → Option Fsp := fun g => if g = 16 then some rmeetS else fnO g
theorem fnP_ok : FsOk fnP := fs_cons rmeetS_ok fnO_ok
end Go.Proofs.YtgdoeplegcaliaaGreat

/- The law package of contact: energy; the chapter's first examples. -/
namespace Go.Proofs.YtgdoeplegcaliaaGreat
open Go.RowKit

def uniVC (x y c : Int) : Int := bif uniB x y then (bif sq2 x y == 0 then 0 else sg (ngB c) (shrC (ab c) (sq2 x y))) else 0
/-- Unit, open to evaluation. -/
def uniC : Fsp := fun _ args k => match args with
  | [.agg [.int .i64 x, .int .i64 y]] => k (s2 (uniVC x y x) (uniVC x y y) (uniE x y))
  | _ => none
theorem uniC_eq : uniC = uniS := by
  have h : ∀ x y c, uniV x y c = uniVC x y c := fun x y c => by unfold uniV uniVC; rw [shr_C]
  unfold uniC uniS
  simp only [h]
  rfl
theorem uniC_ok : FspOk Tryz.prog 77 uniC := by rw [uniC_eq]; exact uniS_ok
def bodyS : Fsp := fun _ args k => match args with
  | [.int .i64 t, .int .i64 y, .int .i64 v] => k (.ret (bdN t 0 0 y 0 v 0 false))
  | _ => none
theorem body_text (N n : Nat) (α : Type) (t y v : Int) (k : AOut → Option α) : evFn real tab ((twT fsH spC).env real tab N (n + 4)) N Tryz.f52 α [iN t, iN y, iN v] k = k (.ret (bdN t 0 0 y 0 v 0 false)) := by kernel_rfl
theorem bodyS_ok : FspOk Tryz.prog 52 bodyS := tower_S fsH_ok spC_ok ⟨Tryz.func52, fun _ _ => by kernel_rfl⟩ (by intro α args k; unfold bodyS; split <;> rfl) fun args out hs h => by
  unfold bodyS at h
  split at h
  · exact ⟨8, 4, (body_text 8 0 AOut _ _ _ some).trans h⟩
  · cases h
noncomputable def fsI : FuncId → Option Fsp := fun g => if g = 52 then some bodyS else fsH g
theorem fsI_ok : FsOk fsI := fs_cons bodyS_ok fsH_ok
noncomputable def fsK : FuncId → Option Fsp := fun g => if g = 77 then some uniC else fsI g
theorem fsK_ok : FsOk fsK := fs_cons uniC_ok fsI_ok

def trueS : Fsp := fun _ args k => match args with
  | [] => k (b1 true)
  | _ => none
set_option maxRecDepth 100000 in
theorem aliveT (α : Type) (k : AOut → Option α) : evFn real tab ((twT fsK spC).env real tab 20 8) 20 Tryz.f17 α [] k = k (b1 true) := by kernel_rfl
theorem aliveS_ok : FspOk Tryz.prog 17 trueS := tower_S fsK_ok spC_ok ⟨Tryz.func17, fun _ _ => by kernel_rfl⟩ (by intro α args k; unfold trueS; split <;> rfl) fun args out hs h => by
  unfold trueS at h
  split at h
  · exact ⟨20, 8, (aliveT AOut some).trans h⟩
  · cases h
end Go.Proofs.YtgdoeplegcaliaaGreat
