/- Parts of the proof, in build order. -/
import Derived.Test.YtgpljldfbhkdlaaGreatM6
import Derived.Test.YtgpljldfbhkdlaaGreatM10
/- Glide in plain numbers: no tick makes a stone faster. -/
namespace Go.Proofs.YtgpljldfbhkdlaaGreat

theorem sw_sq (a : Int) : 0 ≤ a * a := by
  rcases Int.le_total 0 a with h | h
  · exact Int.mul_nonneg h h
  · have := Int.mul_nonneg (show 0 ≤ -a by omega) (show 0 ≤ -a by omega)
    rwa [Int.neg_mul_neg] at this
theorem sw_le {p q : Int} (hq : 0 ≤ q) (h : p * p ≤ q * q) : p ≤ q := by
  rcases Int.lt_or_le q p with c | c
  · have h1 : q * q ≤ q * p := Int.mul_le_mul_of_nonneg_left (by omega) hq
    have h2 : q * p < p * p := Int.mul_lt_mul_of_pos_right c (by omega)
    omega
  · exact c
theorem sw_sum {x y U : Int} (h : x*x+y*y ≤ U*U) (h2 : 0 ≤ U) : 2*(x+y) ≤ 3*U := by
  refine sw_le (by omega) ?_
  have := sw_sq (x-y)
  have := sw_sq U
  grind
theorem sw_sum2 {x y U : Int} (h : x*x+y*y ≤ U*U) (h2 : 0 ≤ U) : 4*(x+2*y) ≤ 9*U := by
  refine sw_le (by omega) ?_
  have := sw_sq (2*x-y)
  have := sw_sq U
  grind
/-- What is cut off a number's part. -/
theorem sw_cut {m x U b : Int} (h1 : m * (U - 1) ≤ 65536 * x) (h2 : 65536 * x ≤ (m + 1) * U) (hm : 0 ≤ m ∧ m ≤ 65536) (hb : 0 ≤ b ∧ b ≤ 65536) (hU : b ≤ U - 1) :
    0 ≤ m * b / 65536 ∧ U * (m * b / 65536) ≤ b * x + U ∧ b * x ≤ U * (m * b / 65536) + 2 * U ∧ m * b / 65536 ≤ x := by
  have hmb : 0 ≤ m * b := Int.mul_nonneg hm.1 hb.1
  have e1 := Int.emod_add_mul_ediv (m * b) 65536
  have e2 := Int.emod_nonneg (m * b) (show (65536 : Int) ≠ 0 by omega)
  have e3 := Int.emod_lt_of_pos (m * b) (show (0 : Int) < 65536 by omega)
  have q0 := Int.ediv_nonneg hmb (show (0 : Int) ≤ 65536 by omega)
  generalize hq : m * b / 65536 = q at *
  generalize hr : m * b % 65536 = r at *
  have t1 := Int.mul_le_mul_of_nonneg_left h1 hb.1
  have t2 := Int.mul_le_mul_of_nonneg_left h2 hb.1
  have t3 : m * b ≤ 65536 * b := Int.mul_le_mul_of_nonneg_right hm.2 hb.1
  have t4 : U * r ≤ U * 65536 := Int.mul_le_mul_of_nonneg_left (by omega) (by omega)
  have t5 : 0 ≤ U * r := Int.mul_nonneg (by omega) (by omega)
  have t6 : b * U ≤ 65536 * U := Int.mul_le_mul_of_nonneg_right hb.2 (by omega)
  have t7 : m * b ≤ m * (U - 1) := Int.mul_le_mul_of_nonneg_left hU hm.1
  have e4 : U * r + 65536 * (U * q) = U * (m * b) := by rw [← e1]; grind
  have e5 : b * (m * (U - 1)) = U * (m * b) - m * b := by grind
  have e6 : b * ((m + 1) * U) = U * (m * b) + b * U := by grind
  have e7 : b * (65536 * x) = 65536 * (b * x) := by grind
  refine ⟨q0, ?_, ?_, ?_⟩ <;> omega
theorem sw_tick {x y U b a px py c1 c2 : Int} (hx : 0 ≤ x) (hy : 0 ≤ y) (hs : x*x+y*y ≤ U*U) (hb : 1 ≤ b) (ha : 0 ≤ a ∧ a ≤ b) (hU : b ≤ U)
    (p1 : U * px ≤ x * (U - b) + 2 * U) (p2 : x * (U - b) ≤ U * px + U) (p0 : 0 ≤ px) (q1 : U * py ≤ y * (U - b) + 2 * U) (q2 : y * (U - b) ≤ U * py + U) (q0 : 0 ≤ py)
    (c11 : U * c1 ≤ a * y + U) (c10 : 0 ≤ c1) (c22 : a * x ≤ U * c2 + 2 * U) (c20 : 0 ≤ c2) (hc : c1 * c1 + c2 * c2 ≤ a * a) :
    px*px + py*py + c1*c1 + c2*c2 + 2*(px*c1 - py*c2) < (U+5)*(U+5) := by
  have hU0 : 0 < U := by omega
  generalize hM : U - b = M at *
  have hM0 : 0 ≤ M := by omega
  have xM : 0 ≤ x * M := Int.mul_nonneg hx hM0
  have yM : 0 ≤ y * M := Int.mul_nonneg hy hM0
  have xa : 0 ≤ a * x := Int.mul_nonneg ha.1 hx
  have ya : 0 ≤ a * y := Int.mul_nonneg ha.1 hy
  have Upx : 0 ≤ U * px := Int.mul_nonneg (by omega) p0
  have Upy : 0 ≤ U * py := Int.mul_nonneg (by omega) q0
  have Uc1 : 0 ≤ U * c1 := Int.mul_nonneg (by omega) c10
  have Uc2 : 0 ≤ U * c2 := Int.mul_nonneg (by omega) c20
  -- squares
  have s1 : (U*px)*(U*px) ≤ (x*M+2*U)*(x*M+2*U) := Int.mul_le_mul p1 p1 Upx (by omega)
  have s2 : (U*py)*(U*py) ≤ (y*M+2*U)*(y*M+2*U) := Int.mul_le_mul q1 q1 Upy (by omega)
  have s3 : (U*px)*(U*c1) ≤ (x*M+2*U)*(a*y+U) := Int.mul_le_mul p1 c11 Uc1 (by omega)
  -- from below
  have s4 : (y*M)*(a*x) - 2*(U*(y*M)) - U*(a*x) ≤ (U*py)*(U*c2) := by
    have h0 : 0 ≤ (U*py)*(U*c2) := Int.mul_nonneg Upy Uc2
    rcases Int.lt_or_le (y*M) U with k | k
    · have : (y*M)*(a*x) ≤ U*(a*x) := Int.mul_le_mul_of_nonneg_right (by omega) xa
      have := Int.mul_nonneg (show 0 ≤ U by omega) yM
      omega
    rcases Int.lt_or_le (a*x) (2*U) with k' | k'
    · have : (y*M)*(a*x) ≤ (y*M)*(2*U) := Int.mul_le_mul_of_nonneg_left (by omega) yM
      have := Int.mul_nonneg (show 0 ≤ U by omega) xa
      grind
    · have h1 : (y*M - U)*(a*x - 2*U) ≤ (U*py)*(U*c2) := Int.mul_le_mul (by omega) (by omega) (by omega) Upy
      have := sw_sq U
      grind
  have m1 : (x*x+y*y)*(M*M) ≤ (U*U)*(M*M) := Int.mul_le_mul_of_nonneg_right hs (sw_sq M)
  have m2 : (2*(x+y))*(U*M) ≤ (3*U)*(U*M) := Int.mul_le_mul_of_nonneg_right (sw_sum hs (by omega)) (Int.mul_nonneg (by omega) hM0)
  have m3 : (4*(x+2*y))*(U*M) ≤ (9*U)*(U*M) := Int.mul_le_mul_of_nonneg_right (sw_sum2 hs (by omega)) (Int.mul_nonneg (by omega) hM0)
  have m4 : (4*(x+2*y))*(U*a) ≤ (9*U)*(U*a) := Int.mul_le_mul_of_nonneg_right (sw_sum2 hs (by omega)) (Int.mul_nonneg (by omega) ha.1)
  have m5 : (U*U)*(c1*c1+c2*c2) ≤ (U*U)*(a*a) := Int.mul_le_mul_of_nonneg_left hc (sw_sq U)
  -- all
  have key : 2*(U*U*(px*px + py*py + c1*c1 + c2*c2 + 2*(px*c1 - py*c2))) ≤ (U*U)*(2*(M*M) + 21*M + 24 + 2*(a*a) + 9*a) := by
    grind
  have fin : 2*(M*M) + 21*M + 24 + 2*(a*a) + 9*a < 2*((U+5)*(U+5)) := by
    have e : U = M + b := by omega
    have f1 : a*a ≤ b*b := Int.mul_le_mul ha.2 ha.2 ha.1 (by omega)
    have f2 : M*1 ≤ M*b := Int.mul_le_mul_of_nonneg_left hb hM0
    subst e
    grind
  have pU : 0 < U*U := Int.mul_pos hU0 hU0
  have l := Int.mul_lt_mul_of_pos_left fin pU
  refine Int.lt_of_mul_lt_mul_left (a := 2*(U*U)) ?_ (by omega)
  grind
end Go.Proofs.YtgpljldfbhkdlaaGreat

/- Glide: ice that is the same everywhere; runs without brooms. -/
namespace Go.Proofs.YtgpljldfbhkdlaaGreat
open Go.RowKit

--AT fsG7 spL twN
set_option maxRecDepth 100000 in
theorem geven_text (α : Type) (fl ke sw be we : Int) (p q : Int) (k : AOut → Option α) : evFn real tab ((twN fsG7 spL).env real tab 12 8) 12 Tryz.f13 α [.agg [.int .i64 fl, .int .i64 ke, .int .i64 sw, .int .i64 be, .int .i64 we], .int .u16 p, .int .u16 q] k =
    k (.ret (.agg [iN (-6553600000), iN (-6553600000), iN 6553600000, iN 3, iN 3, .ro (.int .i64) (List.replicate 9 ((IntKind.i64.wrap p).tmod 1001) : List Int), .ro (.int .i64) (List.replicate 9 ((IntKind.i64.wrap q).tmod 1001) : List Int), iN fl, iN ke, iN sw, iN be, iN we])) := by kernel_rfl
--FIN geven | besom/besomlaw04.even | $GB (p q : Int) | $GR, .int .u16 p, .int .u16 q | .ret (.agg [iN (-6553600000), iN (-6553600000), iN 6553600000, iN 3, iN 3, .ro (.int .i64) (List.replicate 9 ((IntKind.i64.wrap p).tmod 1001) : List Int), .ro (.int .i64) (List.replicate 9 ((IntKind.i64.wrap q).tmod 1001) : List Int), iN fl, iN ke, iN sw, iN be, iN we])
theorem geven_fin (fl ke sw be we : Int) (p q : Int) (hs : ∀ qSm ∈ ([.agg [.int .i64 fl, .int .i64 ke, .int .i64 sw, .int .i64 be, .int .i64 we], .int .u16 p, .int .u16 q] : List AVal), Sm qSm) : ∃ N n, ∀ α (k : AOut → Option α), evFn real tab ((twN fsG7 spL).env real tab N n) N Tryz.f13 α [.agg [.int .i64 fl, .int .i64 ke, .int .i64 sw, .int .i64 be, .int .i64 we], .int .u16 p, .int .u16 q] k = k (.ret (.agg [iN (-6553600000), iN (-6553600000), iN 6553600000, iN 3, iN 3, .ro (.int .i64) (List.replicate 9 ((IntKind.i64.wrap p).tmod 1001) : List Int), .ro (.int .i64) (List.replicate 9 ((IntKind.i64.wrap q).tmod 1001) : List Int), iN fl, iN ke, iN sw, iN be, iN we])) := by
  exact ⟨12, 8, fun α k => geven_text α fl ke sw be we p q k⟩
--CON geven
noncomputable def gevenS : Fsp := fun _ args k => match args with
  | [.agg [.int .i64 fl, .int .i64 ke, .int .i64 sw, .int .i64 be, .int .i64 we], .int .u16 p, .int .u16 q] => k (.ret (.agg [iN (-6553600000), iN (-6553600000), iN 6553600000, iN 3, iN 3, .ro (.int .i64) (List.replicate 9 ((IntKind.i64.wrap p).tmod 1001) : List Int), .ro (.int .i64) (List.replicate 9 ((IntKind.i64.wrap q).tmod 1001) : List Int), iN fl, iN ke, iN sw, iN be, iN we]))
  | _ => none
theorem gevenS_ok : FspOk Tryz.prog 13 gevenS := tower_N fsG7_ok spL_ok ⟨Tryz.func13, fun _ _ => by kernel_rfl⟩ (by intro α args k; unfold gevenS; split <;> rfl) fun args out hSm hEq => by
  unfold gevenS at hEq
  split at hEq
  · rename_i fl ke sw be we p q
    obtain ⟨N, n, e⟩ := geven_fin fl ke sw be we p q hSm
    exact ⟨N, n, (e AOut some).trans hEq⟩
  · cases hEq
--END
/-! Runs without brooms. -/
noncomputable def grF0 {α : Type} (cx cy sd w h : Int) (pb po : List Int) (fl ke sw be we : Int) (m : Int) (R : Option α) (x : S12) : Option (LRes S12 α) := grF cx cy sd w h pb po fl ke sw be we [] m R x
--AT fsG6 spG twY
set_option maxRecDepth 100000 in
theorem gRun0_text (N n0 : Nat) (α : Type) (cx cy sd w h : Int) (pb po : List Int) (fl ke sw be we : Int) (ax ay vx vy sp : Int) (m : Int) (k : AOut → Option α) : evFn real tab ((twY fsG6 spG).env real tab N (n0 + 12)) N Tryz.f14 α [.agg [.int .i64 cx, .int .i64 cy, .int .i64 sd, .int .i64 w, .int .i64 h, .ro (.int .i64) pb, .ro (.int .i64) po], .agg [.int .i64 fl, .int .i64 ke, .int .i64 sw, .int .i64 be, .int .i64 we], .agg [.int .i64 ax, .int .i64 ay, .int .i64 vx, .int .i64 vy, .int .i64 sp], .nils, .int .i64 m] k =
    bif !(iceB cx cy sd w h pb po && graB fl ke sw be we && movB ax ay vx vy sp) then k (rnErr 2)
    else bif decide (0 ≤ m) then bif !decide (m ≤ 6000) then k (rnErr 2) else grT N cx cy sd w h pb po fl ke sw be we ax ay vx vy sp [] m k else k (rnErr 2) := by kernel_rfl
noncomputable def gRunNS : Fsp := fun _ args k => match args with
  | [.agg [.int .i64 cx, .int .i64 cy, .int .i64 sd, .int .i64 w, .int .i64 h, .ro (.int .i64) pb, .ro (.int .i64) po], .agg [.int .i64 fl, .int .i64 ke, .int .i64 sw, .int .i64 be, .int .i64 we], .agg [.int .i64 ax, .int .i64 ay, .int .i64 vx, .int .i64 vy, .int .i64 sp], .ro (.recd (.cons (.int .i64) (.cons (.int .i64) (.cons (.int .i64) .nil)))) l, .int .i64 m] => k (rnO (rnB cx cy sd w h pb po fl ke sw be we ax ay vx vy sp l m) (gRL cx cy sd w h pb po fl ke sw be we ax ay vx vy sp l m) (ax, ay, vx, vy, sp))
  | [.agg [.int .i64 cx, .int .i64 cy, .int .i64 sd, .int .i64 w, .int .i64 h, .ro (.int .i64) pb, .ro (.int .i64) po], .agg [.int .i64 fl, .int .i64 ke, .int .i64 sw, .int .i64 be, .int .i64 we], .agg [.int .i64 ax, .int .i64 ay, .int .i64 vx, .int .i64 vy, .int .i64 sp], .nils, .int .i64 m] => k (rnO (rnB cx cy sd w h pb po fl ke sw be we ax ay vx vy sp [] m) (gRL cx cy sd w h pb po fl ke sw be we ax ay vx vy sp [] m) (ax, ay, vx, vy, sp))
  | _ => none
theorem gRunNS_ok : FspOk Tryz.prog 14 gRunNS := tower_Y fsG6_ok spG_ok ⟨Tryz.func14, fun _ _ => by kernel_rfl⟩ (by intro α args k; unfold gRunNS; split <;> rfl) fun args out hSm hEq => by
  unfold gRunNS at hEq
  split at hEq
  · rename_i cx cy sd w h pb po fl ke sw be we ax ay vx vy sp l m
    obtain ⟨N, n, e⟩ := gRun_fin cx cy sd w h pb po fl ke sw be we ax ay vx vy sp l m hSm
    exact ⟨N, n, (e AOut some).trans hEq⟩
  · rename_i cx cy sd w h pb po fl ke sw be we ax ay vx vy sp m
    refine ⟨m.toNat + 1, 12, (gRun0_text (m.toNat + 1) 0 AOut cx cy sd w h pb po fl ke sw be we ax ay vx vy sp m some).trans (Eq.trans ?_ hEq)⟩
    have hG := fun hi hg hm h0 => grT_fin (α := AOut) cx cy sd w h pb po fl ke sw be we ax ay vx vy sp [] m hi hg hm rfl h0 some
    unfold rnB tckB
    cases hi : iceB cx cy sd w h pb po
    · rfl
    cases hg : graB fl ke sw be we
    · rfl
    cases hm : movB ax ay vx vy sp
    · rfl
    cases h1 : decide (0 ≤ m)
    · rfl
    cases h2 : decide (m ≤ 6000)
    · rfl
    exact hG hi hg hm ⟨of_decide_eq_true h1, of_decide_eq_true h2⟩
  · cases hEq
--FS fsGe | fsG7 | gRunN=besom/glide.Run;geven=besom/besomlaw04.even;galive=besom/besomlaw04.alive;gup=besom/besomlaw04.up
noncomputable def fsGe : FuncId → Option Fsp := fun g =>
  if g = 14 then some gRunNS else
  if g = 13 then some gevenS else
  if g = 12 then some galiveS else
  if g = 16 then some gupS else
  fsG7 g
theorem fsGe_ok : FsOk fsGe :=
  fs_cons gRunNS_ok <|
  fs_cons gevenS_ok <|
  fs_cons galiveS_ok <|
  fs_cons gupS_ok <|
  fsG7_ok
--END

/-! Even ice, plain. -/
abbrev evP (p : Int) : Int := (IntKind.i64.wrap p).tmod 1001
theorem hgt_even (p : Int) {x y : Int} (hp : plcB x y = true) : hgt (List.replicate 9 p) (-6553600000) (-6553600000) 6553600000 3 3 x y = p := by
  rw [plc_iff] at hp
  have hc : inCel (-6553600000) (-6553600000) 6553600000 3 3 x y = true := by
    unfold inCel
    rw [decide_eq_true (by omega), decide_eq_true (by omega), decide_eq_true (by omega), decide_eq_true (by omega)]; rfl
  unfold hgt
  rw [hc, cond_true]
  unfold celC
  have a : 0 ≤ (y - -6553600000) / 6553600000 ∧ (y - -6553600000) / 6553600000 ≤ 2 := by omega
  have b : 0 ≤ (x - -6553600000) / 6553600000 ∧ (x - -6553600000) / 6553600000 ≤ 2 := by omega
  rw [List.getD_eq_getElem?_getD, List.getElem?_replicate, if_pos (by omega)]
  rfl
/-- How even ice brakes, and bends. -/
theorem slw_even (fl ke sw be we : Int) (p q : Int) {x y : Int} (hp : plcB x y = true) (hi : iceB (-6553600000) (-6553600000) 6553600000 3 3 (List.replicate 9 p) (List.replicate 9 q) = true) (hg : graB fl ke sw be we = true) : slwV (-6553600000) (-6553600000) 6553600000 3 3 (List.replicate 9 p) (List.replicate 9 q) fl ke sw be we x y = brkV fl ke sw p q := by
  unfold slwV
  rw [hi, hg, hp, hgt_even p hp, hgt_even q hp]; rfl
theorem bdv_even (fl ke sw be we : Int) (p q : Int) {x y : Int} (hp : plcB x y = true) (hi : iceB (-6553600000) (-6553600000) 6553600000 3 3 (List.replicate 9 p) (List.replicate 9 q) = true) (hg : graB fl ke sw be we = true) : bdvV (-6553600000) (-6553600000) 6553600000 3 3 (List.replicate 9 p) (List.replicate 9 q) fl ke sw be we x y = bndV be q := by
  unfold bdvV
  rw [hi, hg, hp, hgt_even q hp]; rfl
theorem ice_even {p q : Int} (hi : iceB (-6553600000) (-6553600000) 6553600000 3 3 (List.replicate 9 p) (List.replicate 9 q) = true) : Gr1 p ∧ Gr1 q := by
  have g := ice_is _ _ _ _ _ _ _ hi
  have h1 := g.pg
  have h2 := g.og
  simp only [List.replicate, List.all_cons, Bool.and_eq_true] at h1 h2
  exact ⟨in_dec.1 h1.1, in_dec.1 h2.1⟩
theorem mov_plc {s : St5} (h : mov5 s = true) : plcB s.1 s.2.1 = true := (plc_iff ..).2 (mov_iff.1 h).1
/-- A run, seen through a map of its states. -/
theorem runL_map {S S' : Type} {nx : Nat → S → Option S} {nx' : Nat → S' → Option S'} {z : S → Bool} {z' : S' → Bool} (f : S → S') (inv : S → Prop) (hz : ∀ s, inv s → z' (f s) = z s) (hn : ∀ i s, inv s → nx' i (f s) = (nx i s).map f) (hi : ∀ i s s', inv s → nx i s = some s' → inv s') :
    ∀ (n i : Nat) (s : S), inv s → runL nx' z' n i (f s) = (runL nx z n i s).map (List.map f)
  | 0, i, s, _ => rfl
  | n + 1, i, s, h => by
    unfold runL
    rw [hz s h, hn i s h]
    cases z s
    · simp only [cond_false]
      cases hs : nx i s with
      | none => rfl
      | some s' =>
        simp only [Option.map_some]
        rw [runL_map f inv hz hn hi n (i + 1) s' (hi i s s' h hs)]
        cases runL nx z n (i + 1) s' <;> rfl
    · rfl
theorem lastD_map {S S' : Type} (f : S → S') : ∀ (l : List S) (s : S), lastD (f s) (l.map f) = f (lastD s l)
  | [], _ => rfl
  | x :: l, s => lastD_map f l x

/-! A stone without spin that goes along Y. -/
theorem shr_full {v : Int} (h0 : 0 < v) (h1 : v ≤ 65536000) : shr v (v * v) = 65536 := by
  have hx : okB 0 = true := rfl
  have hy : okB v = true := ok_iff.2 (by omega)
  have hs : sq2 0 v = v * v := by unfold sq2; rw [ab_pos (x := v) (by omega)]; show 0 * 0 + v * v = v * v; omega
  have hp : 0 < v * v := Int.mul_pos h0 h0
  obtain ⟨_, s2⟩ := shB_of hx hy (by rw [hs]; omega)
  have b := shr_in s2
  rw [vw_hl, hs, ab_pos (x := v) (by omega)] at b
  obtain ⟨b0, b1, b2, b3⟩ := b
  simp only [shrP, decide_eq_false_iff_not] at b3
  have t : (((shr v (v * v)).toNat + 1 : Nat) : Int) = shr v (v * v) + 1 := by omega
  rw [t] at b3
  generalize shr v (v * v) = m at *
  rcases Int.lt_or_le m 65536 with c | c
  · have h2 : (m + 1) * (m + 1) ≤ 65536 * 65536 := Int.mul_le_mul (by omega) (by omega) (by omega) (by omega)
    have h3 : (m + 1) * (m + 1) * (v * v) ≤ 65536 * 65536 * (v * v) := Int.mul_le_mul_of_nonneg_right h2 (by omega)
    omega
  · omega
theorem shr_none {v : Int} (h0 : 0 < v) (h1 : v ≤ 65536000) : shr 0 (v * v) = 0 := by
  have hx : okB 0 = true := rfl
  have hy : okB v = true := ok_iff.2 (by omega)
  have hs : sq2 0 v = v * v := by unfold sq2; rw [ab_pos (x := v) (by omega)]; show 0 * 0 + v * v = v * v; omega
  have hp : 0 < v * v := Int.mul_pos h0 h0
  obtain ⟨s1, _⟩ := shB_of hx hy (by rw [hs]; omega)
  have b := shr_in s1
  rw [vw_hl, hs, show ab 0 = 0 from rfl] at b
  obtain ⟨b0, b1, b2, b3⟩ := b
  simp only [shrP, decide_eq_true_eq] at b2
  have t : ((shr 0 (v * v)).toNat : Int) = shr 0 (v * v) := by omega
  rw [t] at b2
  generalize shr 0 (v * v) = m at *
  rcases Int.lt_or_le 0 m with c | c
  · have h2 : 1 * 1 ≤ m * m := Int.mul_le_mul (by omega) (by omega) (by omega) (by omega)
    have h3 : 1 * 1 * (v * v) ≤ m * m * (v * v) := Int.mul_le_mul_of_nonneg_right h2 (by omega)
    omega
  · omega
theorem uni_up {v : Int} (h0 : 0 < v) (h1 : v ≤ 65536000) : uniV 0 v 0 = 0 ∧ uniV 0 v v = 65536 := by
  have hs : sq2 0 v = v * v := by unfold sq2; rw [ab_pos (x := v) (by omega)]; show 0 * 0 + v * v = v * v; omega
  have hp : 0 < v * v := Int.mul_pos h0 h0
  have hz : (v * v == 0) = false := beq_eq_false_iff_ne.2 (by omega)
  unfold uniV uniB
  rw [hs, hz, ok_iff.2 (show -70368744177664 ≤ v ∧ v ≤ 70368744177664 by omega), show ab 0 = 0 from rfl, ab_pos (x := v) (by omega), shr_full h0 h1, shr_none h0 h1, ng_pos (x := v) (by omega)]
  exact ⟨rfl, rfl⟩
theorem len_upY {v : Int} (h0 : 0 ≤ v) (h1 : v ≤ 65536000) : lenV 0 v 1 = v := by
  have hs : sq2 0 v = v * v := by unfold sq2; rw [ab_pos (x := v) h0]; show 0 * 0 + v * v = v * v; omega
  obtain ⟨_, l2, _, _⟩ := len_down (vx := 0) (vy := v) ⟨by omega, by omega⟩ ⟨by omega, h1⟩
  rw [l2, hs]
  have hm : v * v ≤ 65536000 * 65536000 := Int.mul_le_mul h1 h1 h0 (by omega)
  obtain ⟨r0, r1, r2, _⟩ := rt_spec (s := v * v) (Int.mul_nonneg h0 h0) (by omega)
  have a : rt (v * v) ≤ v := sw_le h0 r1
  have b : v < rt (v * v) + 1 := by
    rcases Int.lt_or_le v (rt (v * v) + 1) with c | c
    · exact c
    · have := Int.mul_le_mul c c (by omega) h0
      omega
  omega
/-- Its state: the place, and the speed. -/
abbrev St2 := Int × Int
def emb2 (s : St2) : St5 := (0, s.1, 0, s.2, 0)
def z2 (s : St2) : Bool := s.2 == 0
def nx2 (B : Nat → Int) (i : Nat) (s : St2) : Option St2 := if s.2 ≤ B i then some (s.1, 0) else if s.1 + (s.2 - B i) ≤ 6553600000 then some (s.1 + (s.2 - B i), s.2 - B i) else none
def inv2 (s : St2) : Prop := (0 ≤ s.1 ∧ s.1 ≤ 6553600000) ∧ (0 ≤ s.2 ∧ s.2 ≤ 65536000)
theorem nx2_inv {B : Nat → Int} (hB : ∀ i, 0 ≤ B i) (i : Nat) (s s' : St2) (h : inv2 s) (hn : nx2 B i s = some s') : inv2 s' := by
  obtain ⟨⟨a1, a2⟩, b1, b2⟩ := h
  have := hB i
  unfold nx2 at hn
  split at hn
  · cases hn; exact ⟨⟨a1, a2⟩, ⟨Int.le_refl _, by show (0 : Int) ≤ 65536000; omega⟩⟩
  · split at hn
    · cases hn
      refine ⟨⟨?_, ?_⟩, ⟨?_, ?_⟩⟩ <;> (simp only; omega)
    · cases hn
theorem mov_emb {s : St2} (h : inv2 s) : mov5 (emb2 s) = true := by
  obtain ⟨⟨a1, a2⟩, b1, b2⟩ := h
  show movB 0 s.1 0 s.2 0 = true
  exact mov_iff.2 ⟨⟨⟨by omega, by omega⟩, ⟨by omega, by omega⟩⟩, ⟨⟨by omega, by omega⟩, ⟨by omega, by omega⟩⟩, ⟨by omega, by omega⟩⟩
theorem step2 {sl bd : Int} (hsl : 0 ≤ sl ∧ sl ≤ 65536) (hbd : 0 ≤ bd ∧ bd ≤ 65536) {n : Int} (hn : 0 ≤ n ∧ n ≤ 1000) {β : Type} (s : St2) (h : inv2 s) (r : Int → Int → Int → Int → Int → β) (z : β) :
    tkStep sl bd 0 s.1 0 s.2 0 n r z = if s.2 ≤ tkB sl n then r 0 s.1 0 0 0 else if s.1 + (s.2 - tkB sl n) ≤ 6553600000 then r 0 (s.1 + (s.2 - tkB sl n)) 0 (s.2 - tkB sl n) 0 else z := by
  obtain ⟨⟨a1, a2⟩, b1, b2⟩ := h
  have t : TkOk sl bd 0 s.1 0 s.2 0 n := ⟨hsl, hbd, ⟨by omega, by omega⟩, ⟨by omega, by omega⟩, ⟨by omega, by omega⟩, ⟨by omega, by omega⟩, ⟨by omega, by omega⟩, hn⟩
  have g := tk_is t
  have gb := g.b
  unfold tkStep
  have hR : tkR sl 0 s.2 n = decide (s.2 ≤ tkB sl n) := by unfold tkR; rw [len_upY b1 b2]
  rw [hR]
  by_cases hle : s.2 ≤ tkB sl n
  · rw [decide_eq_true hle, if_pos hle]; rfl
  · rw [decide_eq_false hle, if_neg hle, cond_false]
    obtain ⟨u1, u2⟩ := uni_up (v := s.2) (by omega) b2
    have z1 : ∀ a, cutP a 0 = 0 := fun a => by unfold cutP; rw [show ab 0 = 0 from rfl, Int.mul_zero, Int.zero_ediv]; cases xorB (ngB a) (ngB 0) <;> rfl
    have z0 : ∀ a, cutP 0 a = 0 := fun a => by unfold cutP; rw [show ab 0 = 0 from rfl, Int.zero_mul, Int.zero_ediv]; cases xorB (ngB 0) (ngB a) <;> rfl
    have hC : tkC bd n 0 = 0 := by unfold tkC spnV; rw [show ab 0 = 0 from rfl, Int.mul_zero, Int.zero_ediv]; rfl
    have hBB : cutP 65536 (tkB sl n) = tkB sl n := by
      unfold cutP
      rw [ng_pos gb.1, ab_pos gb.1, show ab 65536 = 65536 from rfl, Int.mul_ediv_cancel_left _ (by omega)]; rfl
    have vX : tkVX sl bd 0 s.2 0 n = 0 := by unfold tkVX; rw [u1, u2, hC, z1, z0, z1]; omega
    have vY : tkVY sl bd 0 s.2 0 n = s.2 - tkB sl n := by unfold tkVY; rw [u1, u2, hC, z1, z1, hBB]; omega
    have hM : tkM sl bd 0 s.1 0 s.2 0 n = decide (s.1 + (s.2 - tkB sl n) ≤ 6553600000) := by
      unfold tkM
      rw [vX, vY]
      by_cases hp : s.1 + (s.2 - tkB sl n) ≤ 6553600000
      · rw [decide_eq_true hp]
        exact mov_iff.2 ⟨⟨⟨by omega, by omega⟩, ⟨by omega, by omega⟩⟩, ⟨⟨by omega, by omega⟩, ⟨by omega, by omega⟩⟩, ⟨by omega, by omega⟩⟩
      · rw [decide_eq_false hp]
        refine Bool.eq_false_iff.2 fun hm => ?_
        have := (mov_iff.1 hm).1.2.2
        omega
    rw [hM, vX, vY]
    by_cases hp : s.1 + (s.2 - tkB sl n) ≤ 6553600000
    · rw [decide_eq_true hp, if_pos hp, cond_true]; rfl
    · rw [decide_eq_false hp, if_neg hp, cond_false]
/-- The run of such a stone on even ice. -/
theorem run2 (fl ke sw be we : Int) (p q : Int) (hi : iceB (-6553600000) (-6553600000) 6553600000 3 3 (List.replicate 9 p) (List.replicate 9 q) = true) (hg : graB fl ke sw be we = true) (l : List BrI) (hl : l.all brmB = true) (v m : Int) (hv : 0 ≤ v ∧ v ≤ 65536000) :
    gRL (-6553600000) (-6553600000) 6553600000 3 3 (List.replicate 9 p) (List.replicate 9 q) fl ke sw be we 0 0 0 v 0 l m = (runL (nx2 fun i => tkB (brkV fl ke sw p q) (strN l i)) z2 m.toNat 0 (0, v)).map (List.map emb2) := by
  obtain ⟨gp, gq⟩ := ice_even hi
  have gr := gra_is _ _ _ _ _ hg
  have h1 := brk_in gr gp gq
  have h2 := gr.fl
  have hsl : 0 ≤ brkV fl ke sw p q ∧ brkV fl ke sw p q ≤ 65536 := by omega
  have hB : ∀ i : Nat, 0 ≤ tkB (brkV fl ke sw p q) (strN l i) := fun i => by
    have hs := str_in hl i
    have := scl_in hsl (n := 5000 - strN l i) (d := 5000) ⟨by omega, by omega⟩ (by omega)
    exact this.1
  unfold gRL
  refine runL_map (nx' := gnx (-6553600000) (-6553600000) 6553600000 3 3 (List.replicate 9 p) (List.replicate 9 q) fl ke sw be we l) (z' := z5) emb2 inv2 (fun s _ => ?_) (fun i s hs => ?_) (fun i s s' hs hn => nx2_inv hB i s s' hs hn) m.toNat 0 (0, v) ⟨⟨by show (0:Int) ≤ 0; omega, by show (0:Int) ≤ 6553600000; omega⟩, hv⟩
  · show ((0 : Int) == 0 && (s.2 == 0 && true)) = (s.2 == 0)
    cases s.2 == 0 <;> rfl
  · have hp := mov_plc (mov_emb hs)
    unfold gnx
    rw [slw_even fl ke sw be we p q hp hi hg, bdv_even fl ke sw be we p q hp hi hg]
    refine (step2 hsl (bnd_in gr.be gq) (str_in hl i) s hs _ _).trans ?_
    unfold nx2
    split
    · rfl
    · split <;> rfl
end Go.Proofs.YtgpljldfbhkdlaaGreat

/- GlideMirrors: its text, and that it answers true. -/
namespace Go.Proofs.YtgpljldfbhkdlaaGreat
open Go.RowKit

--AT fsGe spL twV
noncomputable def gmB {α : Type} (X Y U V S N : Int) (k : AOut → Option α) : Option α :=
  bif X == 0 && (Y == 0 && true) && (U == 0 && (V == 0 && true) && (S == 0 && true)) then k (b1 (N == 0)) else k (b1 false)
noncomputable def gmT {α : Type} (Z X Y U V S N Z' X' Y' U' V' S' N' : Int) (k : AOut → Option α) : Option α :=
  bif Z != 0 then bif Z == 2 then gmB X Y U V S N k else bif Z == 4 then gmB X Y U V S N k else k (b1 false)
  else bif Z' == 0 then bif N' == N then k (b1 (X' == IntKind.i64.wrap (0 - X) && (Y' == Y && true) && (U' == IntKind.i64.wrap (0 - U) && (V' == V && true) && (S' == IntKind.i64.wrap (0 - S) && true)))) else k (b1 false) else k (b1 false)
noncomputable def gmV {α : Type} (fl ke sw be we : Int) (p q : Int) (ax ay vx vy sp : Int) (l : List BrI) (n : Int) (k : AOut → Option α) : Option α :=
  gmT (rnZ (rnB (-6553600000) (-6553600000) 6553600000 3 3 (List.replicate 9 (evP p)) (List.replicate 9 (evP q)) fl ke sw be we ax ay vx vy sp l n) (gRL (-6553600000) (-6553600000) 6553600000 3 3 (List.replicate 9 (evP p)) (List.replicate 9 (evP q)) fl ke sw be we ax ay vx vy sp l n)) (rnX (rnB (-6553600000) (-6553600000) 6553600000 3 3 (List.replicate 9 (evP p)) (List.replicate 9 (evP q)) fl ke sw be we ax ay vx vy sp l n) (gRL (-6553600000) (-6553600000) 6553600000 3 3 (List.replicate 9 (evP p)) (List.replicate 9 (evP q)) fl ke sw be we ax ay vx vy sp l n) (ax, ay, vx, vy, sp)) (rnY (rnB (-6553600000) (-6553600000) 6553600000 3 3 (List.replicate 9 (evP p)) (List.replicate 9 (evP q)) fl ke sw be we ax ay vx vy sp l n) (gRL (-6553600000) (-6553600000) 6553600000 3 3 (List.replicate 9 (evP p)) (List.replicate 9 (evP q)) fl ke sw be we ax ay vx vy sp l n) (ax, ay, vx, vy, sp)) (rnU (rnB (-6553600000) (-6553600000) 6553600000 3 3 (List.replicate 9 (evP p)) (List.replicate 9 (evP q)) fl ke sw be we ax ay vx vy sp l n) (gRL (-6553600000) (-6553600000) 6553600000 3 3 (List.replicate 9 (evP p)) (List.replicate 9 (evP q)) fl ke sw be we ax ay vx vy sp l n) (ax, ay, vx, vy, sp)) (rnV (rnB (-6553600000) (-6553600000) 6553600000 3 3 (List.replicate 9 (evP p)) (List.replicate 9 (evP q)) fl ke sw be we ax ay vx vy sp l n) (gRL (-6553600000) (-6553600000) 6553600000 3 3 (List.replicate 9 (evP p)) (List.replicate 9 (evP q)) fl ke sw be we ax ay vx vy sp l n) (ax, ay, vx, vy, sp)) (rnS (rnB (-6553600000) (-6553600000) 6553600000 3 3 (List.replicate 9 (evP p)) (List.replicate 9 (evP q)) fl ke sw be we ax ay vx vy sp l n) (gRL (-6553600000) (-6553600000) 6553600000 3 3 (List.replicate 9 (evP p)) (List.replicate 9 (evP q)) fl ke sw be we ax ay vx vy sp l n) (ax, ay, vx, vy, sp)) (rnN (rnB (-6553600000) (-6553600000) 6553600000 3 3 (List.replicate 9 (evP p)) (List.replicate 9 (evP q)) fl ke sw be we ax ay vx vy sp l n) (gRL (-6553600000) (-6553600000) 6553600000 3 3 (List.replicate 9 (evP p)) (List.replicate 9 (evP q)) fl ke sw be we ax ay vx vy sp l n)) (rnZ (rnB (-6553600000) (-6553600000) 6553600000 3 3 (List.replicate 9 (evP p)) (List.replicate 9 (evP q)) fl ke sw be we (IntKind.i64.wrap (0 - ax)) ay (IntKind.i64.wrap (0 - vx)) vy (IntKind.i64.wrap (0 - sp)) l n) (gRL (-6553600000) (-6553600000) 6553600000 3 3 (List.replicate 9 (evP p)) (List.replicate 9 (evP q)) fl ke sw be we (IntKind.i64.wrap (0 - ax)) ay (IntKind.i64.wrap (0 - vx)) vy (IntKind.i64.wrap (0 - sp)) l n)) (rnX (rnB (-6553600000) (-6553600000) 6553600000 3 3 (List.replicate 9 (evP p)) (List.replicate 9 (evP q)) fl ke sw be we (IntKind.i64.wrap (0 - ax)) ay (IntKind.i64.wrap (0 - vx)) vy (IntKind.i64.wrap (0 - sp)) l n) (gRL (-6553600000) (-6553600000) 6553600000 3 3 (List.replicate 9 (evP p)) (List.replicate 9 (evP q)) fl ke sw be we (IntKind.i64.wrap (0 - ax)) ay (IntKind.i64.wrap (0 - vx)) vy (IntKind.i64.wrap (0 - sp)) l n) (IntKind.i64.wrap (0 - ax), ay, IntKind.i64.wrap (0 - vx), vy, IntKind.i64.wrap (0 - sp))) (rnY (rnB (-6553600000) (-6553600000) 6553600000 3 3 (List.replicate 9 (evP p)) (List.replicate 9 (evP q)) fl ke sw be we (IntKind.i64.wrap (0 - ax)) ay (IntKind.i64.wrap (0 - vx)) vy (IntKind.i64.wrap (0 - sp)) l n) (gRL (-6553600000) (-6553600000) 6553600000 3 3 (List.replicate 9 (evP p)) (List.replicate 9 (evP q)) fl ke sw be we (IntKind.i64.wrap (0 - ax)) ay (IntKind.i64.wrap (0 - vx)) vy (IntKind.i64.wrap (0 - sp)) l n) (IntKind.i64.wrap (0 - ax), ay, IntKind.i64.wrap (0 - vx), vy, IntKind.i64.wrap (0 - sp))) (rnU (rnB (-6553600000) (-6553600000) 6553600000 3 3 (List.replicate 9 (evP p)) (List.replicate 9 (evP q)) fl ke sw be we (IntKind.i64.wrap (0 - ax)) ay (IntKind.i64.wrap (0 - vx)) vy (IntKind.i64.wrap (0 - sp)) l n) (gRL (-6553600000) (-6553600000) 6553600000 3 3 (List.replicate 9 (evP p)) (List.replicate 9 (evP q)) fl ke sw be we (IntKind.i64.wrap (0 - ax)) ay (IntKind.i64.wrap (0 - vx)) vy (IntKind.i64.wrap (0 - sp)) l n) (IntKind.i64.wrap (0 - ax), ay, IntKind.i64.wrap (0 - vx), vy, IntKind.i64.wrap (0 - sp))) (rnV (rnB (-6553600000) (-6553600000) 6553600000 3 3 (List.replicate 9 (evP p)) (List.replicate 9 (evP q)) fl ke sw be we (IntKind.i64.wrap (0 - ax)) ay (IntKind.i64.wrap (0 - vx)) vy (IntKind.i64.wrap (0 - sp)) l n) (gRL (-6553600000) (-6553600000) 6553600000 3 3 (List.replicate 9 (evP p)) (List.replicate 9 (evP q)) fl ke sw be we (IntKind.i64.wrap (0 - ax)) ay (IntKind.i64.wrap (0 - vx)) vy (IntKind.i64.wrap (0 - sp)) l n) (IntKind.i64.wrap (0 - ax), ay, IntKind.i64.wrap (0 - vx), vy, IntKind.i64.wrap (0 - sp))) (rnS (rnB (-6553600000) (-6553600000) 6553600000 3 3 (List.replicate 9 (evP p)) (List.replicate 9 (evP q)) fl ke sw be we (IntKind.i64.wrap (0 - ax)) ay (IntKind.i64.wrap (0 - vx)) vy (IntKind.i64.wrap (0 - sp)) l n) (gRL (-6553600000) (-6553600000) 6553600000 3 3 (List.replicate 9 (evP p)) (List.replicate 9 (evP q)) fl ke sw be we (IntKind.i64.wrap (0 - ax)) ay (IntKind.i64.wrap (0 - vx)) vy (IntKind.i64.wrap (0 - sp)) l n) (IntKind.i64.wrap (0 - ax), ay, IntKind.i64.wrap (0 - vx), vy, IntKind.i64.wrap (0 - sp))) (rnN (rnB (-6553600000) (-6553600000) 6553600000 3 3 (List.replicate 9 (evP p)) (List.replicate 9 (evP q)) fl ke sw be we (IntKind.i64.wrap (0 - ax)) ay (IntKind.i64.wrap (0 - vx)) vy (IntKind.i64.wrap (0 - sp)) l n) (gRL (-6553600000) (-6553600000) 6553600000 3 3 (List.replicate 9 (evP p)) (List.replicate 9 (evP q)) fl ke sw be we (IntKind.i64.wrap (0 - ax)) ay (IntKind.i64.wrap (0 - vx)) vy (IntKind.i64.wrap (0 - sp)) l n)) k
set_option maxRecDepth 100000 in
theorem gmir_text (N n0 : Nat) (α : Type) (fl ke sw be we : Int) (p q : Int) (ax ay vx vy sp : Int) (l : List BrI) (m : Int) (k : AOut → Option α) : evFn real tab ((twV fsGe spL).env real tab N (n0 + 8)) N Tryz.f3 α [.agg [.int .i64 fl, .int .i64 ke, .int .i64 sw, .int .i64 be, .int .i64 we], .int .u16 p, .int .u16 q, .agg [.int .i64 ax, .int .i64 ay, .int .i64 vx, .int .i64 vy, .int .i64 sp], .ro (.recd (.cons (.int .i64) (.cons (.int .i64) (.cons (.int .i64) .nil)))) l, .int .u8 m] k =
    bif decide ((l.length : Int) > 66) then k (b1 true) else gmV fl ke sw be we p q ax ay vx vy sp l ((IntKind.i64.wrap m).tmod 151) k := by kernel_rfl
/-! A tick, mirrored. -/
theorem ab_neg (x : Int) : ab (-x) = ab x := by unfold ab; split <;> split <;> omega
theorem ng_neg {x : Int} (h : x ≠ 0) : ngB (-x) = !ngB x := by
  unfold ngB
  by_cases c : x < 0
  · rw [decide_eq_true c, decide_eq_false (by omega)]; rfl
  · rw [decide_eq_false c, decide_eq_true (by omega)]; rfl
theorem sg_not (s : Bool) (n : Int) : sg (!s) n = -sg s n := by cases s <;> simp [sg]
theorem cut_negl (a b : Int) : cutP (-a) b = -cutP a b := by
  by_cases h : a = 0
  · subst h
    unfold cutP
    rw [show ab (-0) = 0 from rfl, show ab 0 = 0 from rfl, Int.zero_mul, Int.zero_ediv]
    cases ngB b <;> rfl
  · unfold cutP
    rw [ab_neg, ng_neg h, show xorB (!ngB a) (ngB b) = !xorB (ngB a) (ngB b) by cases ngB a <;> cases ngB b <;> rfl, sg_not]
theorem cut_negr (a b : Int) : cutP a (-b) = -cutP a b := by
  by_cases h : b = 0
  · subst h
    unfold cutP
    rw [show ab (-0) = 0 from rfl, show ab 0 = 0 from rfl, Int.mul_zero, Int.zero_ediv]
    cases ngB a <;> rfl
  · unfold cutP
    rw [ab_neg, ng_neg h, show xorB (ngB a) (!ngB b) = !xorB (ngB a) (ngB b) by cases ngB a <;> cases ngB b <;> rfl, sg_not]
theorem spn_neg (c sp : Int) : spnV c (-sp) = -spnV c sp := by
  by_cases h : sp = 0
  · subst h
    unfold spnV
    rw [show ab (-0) = 0 from rfl, show ab 0 = 0 from rfl, Int.mul_zero, Int.zero_ediv]; rfl
  · unfold spnV
    rw [ab_neg, ng_neg h, sg_not]
theorem sq2_neg (x y : Int) : sq2 (-x) y = sq2 x y := by unfold sq2; rw [ab_neg]
theorem ok_neg (x : Int) : okB (-x) = okB x := by
  rw [Bool.eq_iff_iff, ok_iff, ok_iff]; omega
theorem len_neg (x y how : Int) : lenV (-x) y how = lenV x y how := by unfold lenV lenB; rw [sq2_neg, ok_neg]
theorem uni_negx {vx vy : Int} (hx : -65536000 ≤ vx ∧ vx ≤ 65536000) (hy : -65536000 ≤ vy ∧ vy ≤ 65536000) : uniV (-vx) vy (-vx) = -uniV vx vy vx := by
  unfold uniV uniB
  rw [sq2_neg, ok_neg, ab_neg]
  cases okB vx && okB vy
  · rfl
  simp only [cond_true]
  cases hz : (sq2 vx vy == 0)
  · simp only [cond_false]
    by_cases h : vx = 0
    · subst h
      have hz' : sq2 0 vy ≠ 0 := by simpa using hz
      have hs : sq2 0 vy = ab vy * ab vy := by show 0 * 0 + ab vy * ab vy = _; omega
      have hv : 0 < ab vy := by
        have := ab_nn vy
        rcases Int.lt_or_le 0 (ab vy) with c | c
        · exact c
        · have : ab vy = 0 := by omega
          rw [hs, this] at hz'
          exact absurd rfl hz'
      rw [show ab 0 = 0 from rfl, hs, shr_none hv (ab_le.2 hy)]; rfl
    · rw [ng_neg h, sg_not]
  · rfl
theorem uni_negy (vx vy : Int) : uniV (-vx) vy vy = uniV vx vy vy := by
  unfold uniV uniB
  rw [sq2_neg, ok_neg]
theorem mov_neg (a b c d e : Int) : movB (-a) b (-c) d (-e) = movB a b c d e := by
  rw [Bool.eq_iff_iff, mov_iff, mov_iff]; omega
theorem tk_mir {sl bd ax ay vx vy sp n : Int} (hx : -65536000 ≤ vx ∧ vx ≤ 65536000) (hy : -65536000 ≤ vy ∧ vy ≤ 65536000) {β : Type} (r : Int → Int → Int → Int → Int → β) (z : β) : tkStep sl bd (-ax) ay (-vx) vy (-sp) n r z = tkStep sl bd ax ay vx vy sp n (fun a b c d e => r (-a) b (-c) d (-e)) z := by
  have hC : tkC bd n (-sp) = -tkC bd n sp := spn_neg _ _
  have vX : tkVX sl bd (-vx) vy (-sp) n = -tkVX sl bd vx vy sp n := by
    unfold tkVX
    rw [uni_negx hx hy, uni_negy, hC, cut_negl, cut_negr, cut_negr]; omega
  have vY : tkVY sl bd (-vx) vy (-sp) n = tkVY sl bd vx vy sp n := by
    unfold tkVY
    rw [uni_negx hx hy, uni_negy, hC, cut_negr, cut_negl, cut_negr]; omega
  have hM : tkM sl bd (-ax) ay (-vx) vy (-sp) n = tkM sl bd ax ay vx vy sp n := by
    unfold tkM
    rw [vX, vY, show -ax + -tkVX sl bd vx vy sp n = -(ax + tkVX sl bd vx vy sp n) by omega, mov_neg]
  have hR : tkR sl (-vx) vy n = tkR sl vx vy n := by unfold tkR; rw [len_neg]
  unfold tkStep
  rw [hR, hM, vX, vY, show -ax + -tkVX sl bd vx vy sp n = -(ax + tkVX sl bd vx vy sp n) by omega]
  rfl
def mir (s : St5) : St5 := (-s.1, s.2.1, -s.2.2.1, s.2.2.2.1, -s.2.2.2.2)
theorem mir_mov {s : St5} (h : mov5 s = true) : mov5 (mir s) = true := (mov_neg ..).trans h
theorem run_mir (fl ke sw be we : Int) (p q : Int) (hi : iceB (-6553600000) (-6553600000) 6553600000 3 3 (List.replicate 9 p) (List.replicate 9 q) = true) (hg : graB fl ke sw be we = true) (l : List BrI) (ax ay vx vy sp : Int) (m : Int) (hm : movB ax ay vx vy sp = true) :
    gRL (-6553600000) (-6553600000) 6553600000 3 3 (List.replicate 9 p) (List.replicate 9 q) fl ke sw be we (-ax) ay (-vx) vy (-sp) l m = (gRL (-6553600000) (-6553600000) 6553600000 3 3 (List.replicate 9 p) (List.replicate 9 q) fl ke sw be we ax ay vx vy sp l m).map (List.map mir) := by
  unfold gRL
  refine runL_map (z' := z5) mir (fun s => mov5 s = true) (fun s _ => ?_) (fun i s hs => ?_) (fun i s s' hs hn => gnx_mov _ _ _ _ _ _ _ _ _ _ _ _ l i s s' hs hn) m.toNat 0 (ax, ay, vx, vy, sp) hm
  · show ((-s.2.2.1 : Int) == 0 && (s.2.2.2.1 == 0 && true)) = (s.2.2.1 == 0 && (s.2.2.2.1 == 0 && true))
    rw [show ((-s.2.2.1 : Int) == 0) = (s.2.2.1 == 0) from by rw [Bool.eq_iff_iff]; simp]
  · unfold gnx
    rw [slw_even fl ke sw be we p q (mov_plc hs) hi hg, bdv_even fl ke sw be we p q (mov_plc hs) hi hg, slw_even fl ke sw be we p q (mov_plc (mir_mov hs)) hi hg, bdv_even fl ke sw be we p q (mov_plc (mir_mov hs)) hi hg]
    obtain ⟨_, ⟨v1, v2⟩, _⟩ := mov_iff.1 hs
    show tkStep (brkV fl ke sw p q) (bndV be q) (-s.1) s.2.1 (-s.2.2.1) s.2.2.2.1 (-s.2.2.2.2) (strN l i) _ _ = _
    refine (tk_mir v1 v2 _ _).trans ?_
    unfold tkStep
    cases tkR (brkV fl ke sw p q) s.2.2.1 s.2.2.2.1 (strN l i)
    · cases tkM (brkV fl ke sw p q) (bndV be q) s.1 s.2.1 s.2.2.1 s.2.2.2.1 s.2.2.2.2 (strN l i) <;> rfl
    · rfl
theorem last_mov (cx cy sd w h : Int) (pb po : List Int) (fl ke sw be we : Int) (l : List BrI) : ∀ (n i : Nat) (s : St5) L, mov5 s = true → runL (gnx cx cy sd w h pb po fl ke sw be we l) z5 n i s = some L → mov5 (lastD s L) = true
  | 0, i, s, L, hs, hr => by cases hr; exact hs
  | n + 1, i, s, L, hs, hr => by
    unfold runL at hr
    cases hz : z5 s
    · rw [hz, cond_false] at hr
      cases hn : gnx cx cy sd w h pb po fl ke sw be we l i s with
      | none => rw [hn] at hr; cases hr
      | some s' =>
        rw [hn] at hr
        simp only at hr
        cases hr' : runL (gnx cx cy sd w h pb po fl ke sw be we l) z5 n (i + 1) s' with
        | none => rw [hr'] at hr; cases hr
        | some L' =>
          rw [hr'] at hr
          cases hr
          exact last_mov cx cy sd w h pb po fl ke sw be we l n (i + 1) s' L' (gnx_mov _ _ _ _ _ _ _ _ _ _ _ _ l i s s' hs hn) hr'
    · rw [hz] at hr; cases hr; exact hs
theorem gm_fin {α : Type} (fl ke sw be we : Int) (p q : Int) (ax ay vx vy sp : Int) (l : List BrI) (n : Int) (k : AOut → Option α) : gmV fl ke sw be we p q ax ay vx vy sp l n k = k (b1 true) := by
  unfold gmV
  cases hB : (rnB (-6553600000) (-6553600000) 6553600000 3 3 (List.replicate 9 (evP p)) (List.replicate 9 (evP q)) fl ke sw be we ax ay vx vy sp l n)
  · rfl
  have hB' := hB
  unfold rnB at hB'
  simp only [Bool.and_eq_true] at hB'
  obtain ⟨⟨⟨⟨hi, hg⟩, hm⟩, hb⟩, ht⟩ := hB'
  obtain ⟨⟨p1, p2⟩, ⟨v1, v2⟩, s1⟩ := mov_iff.1 hm
  rw [i64_in (0 - ax) (by omega), i64_in (0 - vx) (by omega), i64_in (0 - sp) (by omega), show 0 - ax = -ax by omega, show 0 - vx = -vx by omega, show 0 - sp = -sp by omega]
  have hB2 : rnB (-6553600000) (-6553600000) 6553600000 3 3 (List.replicate 9 (evP p)) (List.replicate 9 (evP q)) fl ke sw be we (-ax) ay (-vx) vy (-sp) l n = true := by
    unfold rnB
    rw [hi, hg, hb, ht, mov_neg, hm]; rfl
  rw [hB2, run_mir fl ke sw be we (evP p) (evP q) hi hg l ax ay vx vy sp n hm]
  cases hO : (gRL (-6553600000) (-6553600000) 6553600000 3 3 (List.replicate 9 (evP p)) (List.replicate 9 (evP q)) fl ke sw be we ax ay vx vy sp l n) with
  | none => rfl
  | some L =>
    have hL : mov5 (lastD (ax, ay, vx, vy, sp) L) = true := last_mov _ _ _ _ _ _ _ _ _ _ _ _ l _ _ _ L hm hO
    have hlast : lastD (-ax, ay, -vx, vy, -sp) (L.map mir) = mir (lastD (ax, ay, vx, vy, sp) L) := lastD_map mir L (ax, ay, vx, vy, sp)
    have eP : rnP (some (L.map mir)) (-ax, ay, -vx, vy, -sp) = mir (lastD (ax, ay, vx, vy, sp) L) := hlast
    have eQ : rnP (some L) (ax, ay, vx, vy, sp) = lastD (ax, ay, vx, vy, sp) L := rfl
    simp only [Option.map_some]
    unfold rnX rnY rnU rnV rnS selI
    rw [eP, eQ]
    generalize lastD (ax, ay, vx, vy, sp) L = s at *
    obtain ⟨⟨q1, q2⟩, ⟨w1, w2⟩, t1⟩ := mov_iff.1 hL
    unfold gmT
    rw [show (rnZ true (some L) != 0) = false from rfl, show (rnZ true (some (L.map mir)) == 0) = true from rfl, show rnN true (some (L.map mir)) = rnN true (some L) from by show ((L.map mir).length : Int) = (L.length : Int); rw [List.length_map]]
    simp only [cond_true, cond_false, BEq.rfl, mir]
    rw [i64_in (0 - s.1) (by omega), i64_in (0 - s.2.2.1) (by omega), i64_in (0 - s.2.2.2.2) (by omega), show 0 - s.1 = -s.1 by omega, show 0 - s.2.2.1 = -s.2.2.1 by omega, show 0 - s.2.2.2.2 = -s.2.2.2.2 by omega]
    simp only [BEq.rfl, Bool.and_self]
theorem gmir_true (fl ke sw be we : Int) (p q : Int) (ax ay vx vy sp : Int) (l : List BrI) (m : Int) : evFn real tab ((twV fsGe spL).env real tab 8 8) 8 Tryz.f3 AOut [.agg [.int .i64 fl, .int .i64 ke, .int .i64 sw, .int .i64 be, .int .i64 we], .int .u16 p, .int .u16 q, .agg [.int .i64 ax, .int .i64 ay, .int .i64 vx, .int .i64 vy, .int .i64 sp], .ro (.recd (.cons (.int .i64) (.cons (.int .i64) (.cons (.int .i64) .nil)))) l, .int .u8 m] some = some (b1 true) := by
  refine (gmir_text 8 0 AOut fl ke sw be we p q ax ay vx vy sp l m some).trans ?_
  rw [gm_fin]
  cases decide ((l.length : Int) > 66) <;> rfl
def gmirF : List AVal → Option AOut
  | [.agg [.int .i64 fl, .int .i64 ke, .int .i64 sw, .int .i64 be, .int .i64 we], .int .u16 p, .int .u16 q, .agg [.int .i64 ax, .int .i64 ay, .int .i64 vx, .int .i64 vy, .int .i64 sp], .ro (.recd (.cons (.int .i64) (.cons (.int .i64) (.cons (.int .i64) .nil)))) l, .int .u8 m] => some (b1 true)
  | _ => none
theorem gmir_ok : FspOk Tryz.prog 3 (toFsp gmirF) := tower_V fsGe_ok spL_ok ⟨Tryz.func3, fun _ _ => by kernel_rfl⟩ (toFsp_nat _) fun args out hSm hq => by
  replace hq := toFsp_some hq
  unfold gmirF at hq
  split at hq
  · rename_i fl ke sw be we p q ax ay vx vy sp l m
    cases hq
    exact ⟨8, 8, gmir_true fl ke sw be we p q ax ay vx vy sp l m⟩
  · cases hq
end Go.Proofs.YtgpljldfbhkdlaaGreat
