/- Parts of the proof, in build order. -/
import Derived.Test.YtgpljldfbhkdlaaGreatM6
import Derived.Test.YtgpljldfbhkdlaaGreatM10
/- Glide in plain numbers: no tick makes a stone faster. -/
namespace Go.Proofs.YtgpljldfbhkdlaaGreat

theorem sw_sq (a : Int) : 0 ≤ a * a := by
  rcases Int.le_total 0 a with h | h
  · exact Int.mul_nonneg h h
  · have := Int.mul_nonneg (show 0 ≤ -a by omega) (show 0 ≤ -a by omega)
    rwa [Int.neg_mul_neg] at this
theorem sw_le {p q : Int} (hq : 0 ≤ q) (h : p * p ≤ q * q) : p ≤ q := by
  rcases Int.lt_or_le q p with c | c
  · have h1 : q * q ≤ q * p := Int.mul_le_mul_of_nonneg_left (by omega) hq
    have h2 : q * p < p * p := Int.mul_lt_mul_of_pos_right c (by omega)
    omega
  · exact c
theorem sw_sum {x y U : Int} (h : x*x+y*y ≤ U*U) (h2 : 0 ≤ U) : 2*(x+y) ≤ 3*U := by
  refine sw_le (by omega) ?_
  have := sw_sq (x-y)
  have := sw_sq U
  grind
theorem sw_sum2 {x y U : Int} (h : x*x+y*y ≤ U*U) (h2 : 0 ≤ U) : 4*(x+2*y) ≤ 9*U := by
  refine sw_le (by omega) ?_
  have := sw_sq (2*x-y)
  have := sw_sq U
  grind
/-- What is cut off a number's part. -/
theorem sw_cut {m x U b : Int} (h1 : m * (U - 1) ≤ 65536 * x) (h2 : 65536 * x ≤ (m + 1) * U) (hm : 0 ≤ m ∧ m ≤ 65536) (hb : 0 ≤ b ∧ b ≤ 65536) (hU : b ≤ U - 1) :
    0 ≤ m * b / 65536 ∧ U * (m * b / 65536) ≤ b * x + U ∧ b * x ≤ U * (m * b / 65536) + 2 * U ∧ m * b / 65536 ≤ x := by
  have hmb : 0 ≤ m * b := Int.mul_nonneg hm.1 hb.1
  have e1 := Int.emod_add_mul_ediv (m * b) 65536
  have e2 := Int.emod_nonneg (m * b) (show (65536 : Int) ≠ 0 by omega)
  have e3 := Int.emod_lt_of_pos (m * b) (show (0 : Int) < 65536 by omega)
  have q0 := Int.ediv_nonneg hmb (show (0 : Int) ≤ 65536 by omega)
  generalize hq : m * b / 65536 = q at *
  generalize hr : m * b % 65536 = r at *
  have t1 := Int.mul_le_mul_of_nonneg_left h1 hb.1
  have t2 := Int.mul_le_mul_of_nonneg_left h2 hb.1
  have t3 : m * b ≤ 65536 * b := Int.mul_le_mul_of_nonneg_right hm.2 hb.1
  have t4 : U * r ≤ U * 65536 := Int.mul_le_mul_of_nonneg_left (by omega) (by omega)
  have t5 : 0 ≤ U * r := Int.mul_nonneg (by omega) (by omega)
  have t6 : b * U ≤ 65536 * U := Int.mul_le_mul_of_nonneg_right hb.2 (by omega)
  have t7 : m * b ≤ m * (U - 1) := Int.mul_le_mul_of_nonneg_left hU hm.1
  have e4 : U * r + 65536 * (U * q) = U * (m * b) := by rw [← e1]; grind
  have e5 : b * (m * (U - 1)) = U * (m * b) - m * b := by grind
  have e6 : b * ((m + 1) * U) = U * (m * b) + b * U := by grind
  have e7 : b * (65536 * x) = 65536 * (b * x) := by grind
  refine ⟨q0, ?_, ?_, ?_⟩ <;> omega
theorem sw_tick {x y U b a px py c1 c2 : Int} (hx : 0 ≤ x) (hy : 0 ≤ y) (hs : x*x+y*y ≤ U*U) (hb : 1 ≤ b) (ha : 0 ≤ a ∧ a ≤ b) (hU : b ≤ U)
    (p1 : U * px ≤ x * (U - b) + 2 * U) (p2 : x * (U - b) ≤ U * px + U) (p0 : 0 ≤ px) (q1 : U * py ≤ y * (U - b) + 2 * U) (q2 : y * (U - b) ≤ U * py + U) (q0 : 0 ≤ py)
    (c11 : U * c1 ≤ a * y + U) (c10 : 0 ≤ c1) (c22 : a * x ≤ U * c2 + 2 * U) (c20 : 0 ≤ c2) (hc : c1 * c1 + c2 * c2 ≤ a * a) :
    px*px + py*py + c1*c1 + c2*c2 + 2*(px*c1 - py*c2) < (U+5)*(U+5) := by
  have hU0 : 0 < U := by omega
  generalize hM : U - b = M at *
  have hM0 : 0 ≤ M := by omega
  have xM : 0 ≤ x * M := Int.mul_nonneg hx hM0
  have yM : 0 ≤ y * M := Int.mul_nonneg hy hM0
  have xa : 0 ≤ a * x := Int.mul_nonneg ha.1 hx
  have ya : 0 ≤ a * y := Int.mul_nonneg ha.1 hy
  have Upx : 0 ≤ U * px := Int.mul_nonneg (by omega) p0
  have Upy : 0 ≤ U * py := Int.mul_nonneg (by omega) q0
  have Uc1 : 0 ≤ U * c1 := Int.mul_nonneg (by omega) c10
  have Uc2 : 0 ≤ U * c2 := Int.mul_nonneg (by omega) c20
  -- squares
  have s1 : (U*px)*(U*px) ≤ (x*M+2*U)*(x*M+2*U) := Int.mul_le_mul p1 p1 Upx (by omega)
  have s2 : (U*py)*(U*py) ≤ (y*M+2*U)*(y*M+2*U) := Int.mul_le_mul q1 q1 Upy (by omega)
  have s3 : (U*px)*(U*c1) ≤ (x*M+2*U)*(a*y+U) := Int.mul_le_mul p1 c11 Uc1 (by omega)
  -- from below
  have s4 : (y*M)*(a*x) - 2*(U*(y*M)) - U*(a*x) ≤ (U*py)*(U*c2) := by
    have h0 : 0 ≤ (U*py)*(U*c2) := Int.mul_nonneg Upy Uc2
    rcases Int.lt_or_le (y*M) U with k | k
    · have : (y*M)*(a*x) ≤ U*(a*x) := Int.mul_le_mul_of_nonneg_right (by omega) xa
      have := Int.mul_nonneg (show 0 ≤ U by omega) yM
      omega
    rcases Int.lt_or_le (a*x) (2*U) with k' | k'
    · have : (y*M)*(a*x) ≤ (y*M)*(2*U) := Int.mul_le_mul_of_nonneg_left (by omega) yM
      have := Int.mul_nonneg (show 0 ≤ U by omega) xa
      grind
    · have h1 : (y*M - U)*(a*x - 2*U) ≤ (U*py)*(U*c2) := Int.mul_le_mul (by omega) (by omega) (by omega) Upy
      have := sw_sq U
      grind
  have m1 : (x*x+y*y)*(M*M) ≤ (U*U)*(M*M) := Int.mul_le_mul_of_nonneg_right hs (sw_sq M)
  have m2 : (2*(x+y))*(U*M) ≤ (3*U)*(U*M) := Int.mul_le_mul_of_nonneg_right (sw_sum hs (by omega)) (Int.mul_nonneg (by omega) hM0)
  have m3 : (4*(x+2*y))*(U*M) ≤ (9*U)*(U*M) := Int.mul_le_mul_of_nonneg_right (sw_sum2 hs (by omega)) (Int.mul_nonneg (by omega) hM0)
  have m4 : (4*(x+2*y))*(U*a) ≤ (9*U)*(U*a) := Int.mul_le_mul_of_nonneg_right (sw_sum2 hs (by omega)) (Int.mul_nonneg (by omega) ha.1)
  have m5 : (U*U)*(c1*c1+c2*c2) ≤ (U*U)*(a*a) := Int.mul_le_mul_of_nonneg_left hc (sw_sq U)
  -- all
  have key : 2*(U*U*(px*px + py*py + c1*c1 + c2*c2 + 2*(px*c1 - py*c2))) ≤ (U*U)*(2*(M*M) + 21*M + 24 + 2*(a*a) + 9*a) := by
    grind
  have fin : 2*(M*M) + 21*M + 24 + 2*(a*a) + 9*a < 2*((U+5)*(U+5)) := by
    have e : U = M + b := by omega
    have f1 : a*a ≤ b*b := Int.mul_le_mul ha.2 ha.2 ha.1 (by omega)
    have f2 : M*1 ≤ M*b := Int.mul_le_mul_of_nonneg_left hb hM0
    subst e
    grind
  have pU : 0 < U*U := Int.mul_pos hU0 hU0
  have l := Int.mul_lt_mul_of_pos_left fin pU
  refine Int.lt_of_mul_lt_mul_left (a := 2*(U*U)) ?_ (by omega)
  grind
end Go.Proofs.YtgpljldfbhkdlaaGreat

/- Glide: ice that is the same everywhere; runs without brooms. -/
namespace Go.Proofs.YtgpljldfbhkdlaaGreat
open Go.RowKit

--AT fsG7 spL twN
set_option maxRecDepth 100000 in
theorem geven_text (α : Type) (fl ke sw be we : Int) (p q : Int) (k : AOut → Option α) : evFn real tab ((twN fsG7 spL).env real tab 12 8) 12 Tryz.f13 α [.agg [.int .i64 fl, .int .i64 ke, .int .i64 sw, .int .i64 be, .int .i64 we], .int .u16 p, .int .u16 q] k =
    k (.ret (.agg [iN (-6553600000), iN (-6553600000), iN 6553600000, iN 3, iN 3, .ro (.int .i64) (List.replicate 9 ((IntKind.i64.wrap p).tmod 1001) : List Int), .ro (.int .i64) (List.replicate 9 ((IntKind.i64.wrap q).tmod 1001) : List Int), iN fl, iN ke, iN sw, iN be, iN we])) := by kernel_rfl
--FIN geven | besom/besomlaw04.even | $GB (p q : Int) | $GR, .int .u16 p, .int .u16 q | .ret (.agg [iN (-6553600000), iN (-6553600000), iN 6553600000, iN 3, iN 3, .ro (.int .i64) (List.replicate 9 ((IntKind.i64.wrap p).tmod 1001) : List Int), .ro (.int .i64) (List.replicate 9 ((IntKind.i64.wrap q).tmod 1001) : List Int), iN fl, iN ke, iN sw, iN be, iN we])
theorem geven_fin (fl ke sw be we : Int) (p q : Int) (hs : ∀ qSm ∈ ([.agg [.int .i64 fl, .int .i64 ke, .int .i64 sw, .int .i64 be, .int .i64 we], .int .u16 p, .int .u16 q] : List AVal), Sm qSm) : ∃ N n, ∀ α (k : AOut → Option α), evFn real tab ((twN fsG7 spL).env real tab N n) N Tryz.f13 α [.agg [.int .i64 fl, .int .i64 ke, .int .i64 sw, .int .i64 be, .int .i64 we], .int .u16 p, .int .u16 q] k = k (.ret (.agg [iN (-6553600000), iN (-6553600000), iN 6553600000, iN 3, iN 3, .ro (.int .i64) (List.replicate 9 ((IntKind.i64.wrap p).tmod 1001) : List Int), .ro (.int .i64) (List.replicate 9 ((IntKind.i64.wrap q).tmod 1001) : List Int), iN fl, iN ke, iN sw, iN be, iN we])) := by
  exact ⟨12, 8, fun α k => geven_text α fl ke sw be we p q k⟩
--CON geven
noncomputable def gevenS : Fsp := fun _ args k => match args with
  | [.agg [.int .i64 fl, .int .i64 ke, .int .i64 sw, .int .i64 be, .int .i64 we], .int .u16 p, .int .u16 q] => k (.ret (.agg [iN (-6553600000), iN (-6553600000), iN 6553600000, iN 3, iN 3, .ro (.int .i64) (List.replicate 9 ((IntKind.i64.wrap p).tmod 1001) : List Int), .ro (.int .i64) (List.replicate 9 ((IntKind.i64.wrap q).tmod 1001) : List Int), iN fl, iN ke, iN sw, iN be, iN we]))
  | _ => none
theorem gevenS_ok : FspOk Tryz.prog 13 gevenS := tower_N fsG7_ok spL_ok ⟨Tryz.func13, fun _ _ => by kernel_rfl⟩ (by intro α args k; unfold gevenS; split <;> rfl) fun args out hSm hEq => by
  unfold gevenS at hEq
  split at hEq
  · rename_i fl ke sw be we p q
    obtain ⟨N, n, e⟩ := geven_fin fl ke sw be we p q hSm
    exact ⟨N, n, (e AOut some).trans hEq⟩
  · cases hEq
--END
/-! Runs without brooms. -/
noncomputable def grF0 {α : Type} (cx cy sd w h : Int) (pb po : List Int) (fl ke sw be we : Int) (m : Int) (R : Option α) (x : S12) : Option (LRes S12 α) := grF cx cy sd w h pb po fl ke sw be we [] m R x
--AT fsG6 spG twY
set_option maxRecDepth 100000 in
theorem gRun0_text (N n0 : Nat) (α : Type) (cx cy sd w h : Int) (pb po : List Int) (fl ke sw be we : Int) (ax ay vx vy sp : Int) (m : Int) (k : AOut → Option α) : evFn real tab ((twY fsG6 spG).env real tab N (n0 + 12)) N Tryz.f14 α [.agg [.int .i64 cx, .int .i64 cy, .int .i64 sd, .int .i64 w, .int .i64 h, .ro (.int .i64) pb, .ro (.int .i64) po], .agg [.int .i64 fl, .int .i64 ke, .int .i64 sw, .int .i64 be, .int .i64 we], .agg [.int .i64 ax, .int .i64 ay, .int .i64 vx, .int .i64 vy, .int .i64 sp], .nils, .int .i64 m] k =
    bif !(iceB cx cy sd w h pb po && graB fl ke sw be we && movB ax ay vx vy sp) then k (rnErr 2)
    else bif decide (0 ≤ m) then bif !decide (m ≤ 6000) then k (rnErr 2) else grT N cx cy sd w h pb po fl ke sw be we ax ay vx vy sp [] m k else k (rnErr 2) := by kernel_rfl
noncomputable def gRunNS : Fsp := fun _ args k => match args with
  | [.agg [.int .i64 cx, .int .i64 cy, .int .i64 sd, .int .i64 w, .int .i64 h, .ro (.int .i64) pb, .ro (.int .i64) po], .agg [.int .i64 fl, .int .i64 ke, .int .i64 sw, .int .i64 be, .int .i64 we], .agg [.int .i64 ax, .int .i64 ay, .int .i64 vx, .int .i64 vy, .int .i64 sp], .ro (.recd (.cons (.int .i64) (.cons (.int .i64) (.cons (.int .i64) .nil)))) l, .int .i64 m] => k (rnO (rnB cx cy sd w h pb po fl ke sw be we ax ay vx vy sp l m) (gRL cx cy sd w h pb po fl ke sw be we ax ay vx vy sp l m) (ax, ay, vx, vy, sp))
  | [.agg [.int .i64 cx, .int .i64 cy, .int .i64 sd, .int .i64 w, .int .i64 h, .ro (.int .i64) pb, .ro (.int .i64) po], .agg [.int .i64 fl, .int .i64 ke, .int .i64 sw, .int .i64 be, .int .i64 we], .agg [.int .i64 ax, .int .i64 ay, .int .i64 vx, .int .i64 vy, .int .i64 sp], .nils, .int .i64 m] => k (rnO (rnB cx cy sd w h pb po fl ke sw be we ax ay vx vy sp [] m) (gRL cx cy sd w h pb po fl ke sw be we ax ay vx vy sp [] m) (ax, ay, vx, vy, sp))
  | _ => none
theorem gRunNS_ok : FspOk Tryz.prog 14 gRunNS := tower_Y fsG6_ok spG_ok ⟨Tryz.func14, fun _ _ => by kernel_rfl⟩ (by intro α args k; unfold gRunNS; split <;> rfl) fun args out hSm hEq => by
  unfold gRunNS at hEq
  split at hEq
  · rename_i cx cy sd w h pb po fl ke sw be we ax ay vx vy sp l m
    obtain ⟨N, n, e⟩ := gRun_fin cx cy sd w h pb po fl ke sw be we ax ay vx vy sp l m hSm
    exact ⟨N, n, (e AOut some).trans hEq⟩
  · rename_i cx cy sd w h pb po fl ke sw be we ax ay vx vy sp m
    refine ⟨m.toNat + 1, 12, (gRun0_text (m.toNat + 1) 0 AOut cx cy sd w h pb po fl ke sw be we ax ay vx vy sp m some).trans (Eq.trans ?_ hEq)⟩
    have hG := fun hi hg hm h0 => grT_fin (α := AOut) cx cy sd w h pb po fl ke sw be we ax ay vx vy sp [] m hi hg hm rfl h0 some
    unfold rnB tckB
    cases hi : iceB cx cy sd w h pb po
    · rfl
    cases hg : graB fl ke sw be we
    · rfl
    cases hm : movB ax ay vx vy sp
    · rfl
    cases h1 : decide (0 ≤ m)
    · rfl
    cases h2 : decide (m ≤ 6000)
    · rfl
    exact hG hi hg hm ⟨of_decide_eq_true h1, of_decide_eq_true h2⟩
  · cases hEq
--FS fsGe | fsG7 | gRunN=besom/glide.Run;geven=besom/besomlaw04.even;galive=besom/besomlaw04.alive;gup=besom/besomlaw04.up
noncomputable def fsGe : FuncId → Option Fsp := fun g =>
  if g = 14 then some gRunNS else
  if g = 13 then some gevenS else
  if g = 12 then some galiveS else
  if g = 16 then some gupS else
  fsG7 g
theorem fsGe_ok : FsOk fsGe :=
  fs_cons gRunNS_ok <|
  fs_cons gevenS_ok <|
  fs_cons galiveS_ok <|
  fs_cons gupS_ok <|
  fsG7_ok
--END

/-! Even ice, plain. -/
abbrev evP (p : Int) : Int := (IntKind.i64.wrap p).tmod 1001
theorem hgt_even (p : Int) {x y : Int} (hp : plcB x y = true) : hgt (List.replicate 9 p) (-6553600000) (-6553600000) 6553600000 3 3 x y = p := by
  rw [plc_iff] at hp
  have hc : inCel (-6553600000) (-6553600000) 6553600000 3 3 x y = true := by
    unfold inCel
    rw [decide_eq_true (by omega), decide_eq_true (by omega), decide_eq_true (by omega), decide_eq_true (by omega)]; rfl
  unfold hgt
  rw [hc, cond_true]
  unfold celC
  have a : 0 ≤ (y - -6553600000) / 6553600000 ∧ (y - -6553600000) / 6553600000 ≤ 2 := by omega
  have b : 0 ≤ (x - -6553600000) / 6553600000 ∧ (x - -6553600000) / 6553600000 ≤ 2 := by omega
  rw [List.getD_eq_getElem?_getD, List.getElem?_replicate, if_pos (by omega)]
  rfl
/-- How even ice brakes, and bends. -/
theorem slw_even (fl ke sw be we : Int) (p q : Int) {x y : Int} (hp : plcB x y = true) (hi : iceB (-6553600000) (-6553600000) 6553600000 3 3 (List.replicate 9 p) (List.replicate 9 q) = true) (hg : graB fl ke sw be we = true) : slwV (-6553600000) (-6553600000) 6553600000 3 3 (List.replicate 9 p) (List.replicate 9 q) fl ke sw be we x y = brkV fl ke sw p q := by
  unfold slwV
  rw [hi, hg, hp, hgt_even p hp, hgt_even q hp]; rfl
theorem bdv_even (fl ke sw be we : Int) (p q : Int) {x y : Int} (hp : plcB x y = true) (hi : iceB (-6553600000) (-6553600000) 6553600000 3 3 (List.replicate 9 p) (List.replicate 9 q) = true) (hg : graB fl ke sw be we = true) : bdvV (-6553600000) (-6553600000) 6553600000 3 3 (List.replicate 9 p) (List.replicate 9 q) fl ke sw be we x y = bndV be q := by
  unfold bdvV
  rw [hi, hg, hp, hgt_even q hp]; rfl
theorem ice_even {p q : Int} (hi : iceB (-6553600000) (-6553600000) 6553600000 3 3 (List.replicate 9 p) (List.replicate 9 q) = true) : Gr1 p ∧ Gr1 q := by
  have g := ice_is _ _ _ _ _ _ _ hi
  have h1 := g.pg
  have h2 := g.og
  simp only [List.replicate, List.all_cons, Bool.and_eq_true] at h1 h2
  exact ⟨in_dec.1 h1.1, in_dec.1 h2.1⟩
theorem mov_plc {s : St5} (h : mov5 s = true) : plcB s.1 s.2.1 = true := (plc_iff ..).2 (mov_iff.1 h).1
/-- A run, seen through a map of its states. -/
theorem runL_map {S S' : Type} {nx : Nat → S → Option S} {nx' : Nat → S' → Option S'} {z : S → Bool} {z' : S' → Bool} (f : S → S') (inv : S → Prop) (hz : ∀ s, inv s → z' (f s) = z s) (hn : ∀ i s, inv s → nx' i (f s) = (nx i s).map f) (hi : ∀ i s s', inv s → nx i s = some s' → inv s') :
    ∀ (n i : Nat) (s : S), inv s → runL nx' z' n i (f s) = (runL nx z n i s).map (List.map f)
  | 0, i, s, _ => rfl
  | n + 1, i, s, h => by
    unfold runL
    rw [hz s h, hn i s h]
    cases z s
    · simp only [cond_false]
      cases hs : nx i s with
      | none => rfl
      | some s' =>
        simp only [Option.map_some]
        rw [runL_map f inv hz hn hi n (i + 1) s' (hi i s s' h hs)]
        cases runL nx z n (i + 1) s' <;> rfl
    · rfl
theorem lastD_map {S S' : Type} (f : S → S') : ∀ (l : List S) (s : S), lastD (f s) (l.map f) = f (lastD s l)
  | [], _ => rfl
  | x :: l, s => lastD_map f l x

/-! A stone without spin that goes along Y. -/
theorem shr_full {v : Int} (h0 : 0 < v) (h1 : v ≤ 65536000) : shr v (v * v) = 65536 := by
  have hx : okB 0 = true := rfl
  have hy : okB v = true := ok_iff.2 (by omega)
  have hs : sq2 0 v = v * v := by unfold sq2; rw [ab_pos (x := v) (by omega)]; show 0 * 0 + v * v = v * v; omega
  have hp : 0 < v * v := Int.mul_pos h0 h0
  obtain ⟨_, s2⟩ := shB_of hx hy (by rw [hs]; omega)
  have b := shr_in s2
  rw [vw_hl, hs, ab_pos (x := v) (by omega)] at b
  obtain ⟨b0, b1, b2, b3⟩ := b
  simp only [shrP, decide_eq_false_iff_not] at b3
  have t : (((shr v (v * v)).toNat + 1 : Nat) : Int) = shr v (v * v) + 1 := by omega
  rw [t] at b3
  generalize shr v (v * v) = m at *
  rcases Int.lt_or_le m 65536 with c | c
  · have h2 : (m + 1) * (m + 1) ≤ 65536 * 65536 := Int.mul_le_mul (by omega) (by omega) (by omega) (by omega)
    have h3 : (m + 1) * (m + 1) * (v * v) ≤ 65536 * 65536 * (v * v) := Int.mul_le_mul_of_nonneg_right h2 (by omega)
    omega
  · omega
theorem shr_none {v : Int} (h0 : 0 < v) (h1 : v ≤ 65536000) : shr 0 (v * v) = 0 := by
  have hx : okB 0 = true := rfl
  have hy : okB v = true := ok_iff.2 (by omega)
  have hs : sq2 0 v = v * v := by unfold sq2; rw [ab_pos (x := v) (by omega)]; show 0 * 0 + v * v = v * v; omega
  have hp : 0 < v * v := Int.mul_pos h0 h0
  obtain ⟨s1, _⟩ := shB_of hx hy (by rw [hs]; omega)
  have b := shr_in s1
  rw [vw_hl, hs, show ab 0 = 0 from rfl] at b
  obtain ⟨b0, b1, b2, b3⟩ := b
  simp only [shrP, decide_eq_true_eq] at b2
  have t : ((shr 0 (v * v)).toNat : Int) = shr 0 (v * v) := by omega
  rw [t] at b2
  generalize shr 0 (v * v) = m at *
  rcases Int.lt_or_le 0 m with c | c
  · have h2 : 1 * 1 ≤ m * m := Int.mul_le_mul (by omega) (by omega) (by omega) (by omega)
    have h3 : 1 * 1 * (v * v) ≤ m * m * (v * v) := Int.mul_le_mul_of_nonneg_right h2 (by omega)
    omega
  · omega
theorem uni_up {v : Int} (h0 : 0 < v) (h1 : v ≤ 65536000) : uniV 0 v 0 = 0 ∧ uniV 0 v v = 65536 := by
  have hs : sq2 0 v = v * v := by unfold sq2; rw [ab_pos (x := v) (by omega)]; show 0 * 0 + v * v = v * v; omega
  have hp : 0 < v * v := Int.mul_pos h0 h0
  have hz : (v * v == 0) = false := beq_eq_false_iff_ne.2 (by omega)
  unfold uniV uniB
  rw [hs, hz, ok_iff.2 (show -70368744177664 ≤ v ∧ v ≤ 70368744177664 by omega), show ab 0 = 0 from rfl, ab_pos (x := v) (by omega), shr_full h0 h1, shr_none h0 h1, ng_pos (x := v) (by omega)]
  exact ⟨rfl, rfl⟩
theorem len_upY {v : Int} (h0 : 0 ≤ v) (h1 : v ≤ 65536000) : lenV 0 v 1 = v := by
  have hs : sq2 0 v = v * v := by unfold sq2; rw [ab_pos (x := v) h0]; show 0 * 0 + v * v = v * v; omega
  obtain ⟨_, l2, _, _⟩ := len_down (vx := 0) (vy := v) ⟨by omega, by omega⟩ ⟨by omega, h1⟩
  rw [l2, hs]
  have hm : v * v ≤ 65536000 * 65536000 := Int.mul_le_mul h1 h1 h0 (by omega)
  obtain ⟨r0, r1, r2, _⟩ := rt_spec (s := v * v) (Int.mul_nonneg h0 h0) (by omega)
  have a : rt (v * v) ≤ v := sw_le h0 r1
  have b : v < rt (v * v) + 1 := by
    rcases Int.lt_or_le v (rt (v * v) + 1) with c | c
    · exact c
    · have := Int.mul_le_mul c c (by omega) h0
      omega
  omega
/-- Its state: the place, and the speed. -/
abbrev St2 := Int × Int
def emb2 (s : St2) : St5 := (0, s.1, 0, s.2, 0)
def z2 (s : St2) : Bool := s.2 == 0
def nx2 (B : Nat → Int) (i : Nat) (s : St2) : Option St2 := if s.2 ≤ B i then some (s.1, 0) else if s.1 + (s.2 - B i) ≤ 6553600000 then some (s.1 + (s.2 - B i), s.2 - B i) else none
def inv2 (s : St2) : Prop := (0 ≤ s.1 ∧ s.1 ≤ 6553600000) ∧ (0 ≤ s.2 ∧ s.2 ≤ 65536000)
theorem nx2_inv {B : Nat → Int} (hB : ∀ i, 0 ≤ B i) (i : Nat) (s s' : St2) (h : inv2 s) (hn : nx2 B i s = some s') : inv2 s' := by
  obtain ⟨⟨a1, a2⟩, b1, b2⟩ := h
  have := hB i
  unfold nx2 at hn
  split at hn
  · cases hn; exact ⟨⟨a1, a2⟩, ⟨Int.le_refl _, by show (0 : Int) ≤ 65536000; omega⟩⟩
  · split at hn
    · cases hn
      refine ⟨⟨?_, ?_⟩, ⟨?_, ?_⟩⟩ <;> (simp only; omega)
    · cases hn
theorem mov_emb {s : St2} (h : inv2 s) : mov5 (emb2 s) = true := by
  obtain ⟨⟨a1, a2⟩, b1, b2⟩ := h
  show movB 0 s.1 0 s.2 0 = true
  exact mov_iff.2 ⟨⟨⟨by omega, by omega⟩, ⟨by omega, by omega⟩⟩, ⟨⟨by omega, by omega⟩, ⟨by omega, by omega⟩⟩, ⟨by omega, by omega⟩⟩
theorem step2 {sl bd : Int} (hsl : 0 ≤ sl ∧ sl ≤ 65536) (hbd : 0 ≤ bd ∧ bd ≤ 65536) {n : Int} (hn : 0 ≤ n ∧ n ≤ 1000) {β : Type} (s : St2) (h : inv2 s) (r : Int → Int → Int → Int → Int → β) (z : β) :
    tkStep sl bd 0 s.1 0 s.2 0 n r z = if s.2 ≤ tkB sl n then r 0 s.1 0 0 0 else if s.1 + (s.2 - tkB sl n) ≤ 6553600000 then r 0 (s.1 + (s.2 - tkB sl n)) 0 (s.2 - tkB sl n) 0 else z := by
  obtain ⟨⟨a1, a2⟩, b1, b2⟩ := h
  have t : TkOk sl bd 0 s.1 0 s.2 0 n := ⟨hsl, hbd, ⟨by omega, by omega⟩, ⟨by omega, by omega⟩, ⟨by omega, by omega⟩, ⟨by omega, by omega⟩, ⟨by omega, by omega⟩, hn⟩
  have g := tk_is t
  have gb := g.b
  unfold tkStep
  have hR : tkR sl 0 s.2 n = decide (s.2 ≤ tkB sl n) := by unfold tkR; rw [len_upY b1 b2]
  rw [hR]
  by_cases hle : s.2 ≤ tkB sl n
  · rw [decide_eq_true hle, if_pos hle]; rfl
  · rw [decide_eq_false hle, if_neg hle, cond_false]
    obtain ⟨u1, u2⟩ := uni_up (v := s.2) (by omega) b2
    have z1 : ∀ a, cutP a 0 = 0 := fun a => by unfold cutP; rw [show ab 0 = 0 from rfl, Int.mul_zero, Int.zero_ediv]; cases xorB (ngB a) (ngB 0) <;> rfl
    have z0 : ∀ a, cutP 0 a = 0 := fun a => by unfold cutP; rw [show ab 0 = 0 from rfl, Int.zero_mul, Int.zero_ediv]; cases xorB (ngB 0) (ngB a) <;> rfl
    have hC : tkC bd n 0 = 0 := by unfold tkC spnV; rw [show ab 0 = 0 from rfl, Int.mul_zero, Int.zero_ediv]; rfl
    have hBB : cutP 65536 (tkB sl n) = tkB sl n := by
      unfold cutP
      rw [ng_pos gb.1, ab_pos gb.1, show ab 65536 = 65536 from rfl, Int.mul_ediv_cancel_left _ (by omega)]; rfl
    have vX : tkVX sl bd 0 s.2 0 n = 0 := by unfold tkVX; rw [u1, u2, hC, z1, z0, z1]; omega
    have vY : tkVY sl bd 0 s.2 0 n = s.2 - tkB sl n := by unfold tkVY; rw [u1, u2, hC, z1, z1, hBB]; omega
    have hM : tkM sl bd 0 s.1 0 s.2 0 n = decide (s.1 + (s.2 - tkB sl n) ≤ 6553600000) := by
      unfold tkM
      rw [vX, vY]
      by_cases hp : s.1 + (s.2 - tkB sl n) ≤ 6553600000
      · rw [decide_eq_true hp]
        exact mov_iff.2 ⟨⟨⟨by omega, by omega⟩, ⟨by omega, by omega⟩⟩, ⟨⟨by omega, by omega⟩, ⟨by omega, by omega⟩⟩, ⟨by omega, by omega⟩⟩
      · rw [decide_eq_false hp]
        refine Bool.eq_false_iff.2 fun hm => ?_
        have := (mov_iff.1 hm).1.2.2
        omega
    rw [hM, vX, vY]
    by_cases hp : s.1 + (s.2 - tkB sl n) ≤ 6553600000
    · rw [decide_eq_true hp, if_pos hp, cond_true]; rfl
    · rw [decide_eq_false hp, if_neg hp, cond_false]
/-- The run of such a stone on even ice. -/
theorem run2 (fl ke sw be we : Int) (p q : Int) (hi : iceB (-6553600000) (-6553600000) 6553600000 3 3 (List.replicate 9 p) (List.replicate 9 q) = true) (hg : graB fl ke sw be we = true) (l : List BrI) (hl : l.all brmB = true) (v m : Int) (hv : 0 ≤ v ∧ v ≤ 65536000) :
    gRL (-6553600000) (-6553600000) 6553600000 3 3 (List.replicate 9 p) (List.replicate 9 q) fl ke sw be we 0 0 0 v 0 l m = (runL (nx2 fun i => tkB (brkV fl ke sw p q) (strN l i)) z2 m.toNat 0 (0, v)).map (List.map emb2) := by
  obtain ⟨gp, gq⟩ := ice_even hi
  have gr := gra_is _ _ _ _ _ hg
  have h1 := brk_in gr gp gq
  have h2 := gr.fl
  have hsl : 0 ≤ brkV fl ke sw p q ∧ brkV fl ke sw p q ≤ 65536 := by omega
  have hB : ∀ i : Nat, 0 ≤ tkB (brkV fl ke sw p q) (strN l i) := fun i => by
    have hs := str_in hl i
    have := scl_in hsl (n := 5000 - strN l i) (d := 5000) ⟨by omega, by omega⟩ (by omega)
    exact this.1
  unfold gRL
  refine runL_map (nx' := gnx (-6553600000) (-6553600000) 6553600000 3 3 (List.replicate 9 p) (List.replicate 9 q) fl ke sw be we l) (z' := z5) emb2 inv2 (fun s _ => ?_) (fun i s hs => ?_) (fun i s s' hs hn => nx2_inv hB i s s' hs hn) m.toNat 0 (0, v) ⟨⟨by show (0:Int) ≤ 0; omega, by show (0:Int) ≤ 6553600000; omega⟩, hv⟩
  · show ((0 : Int) == 0 && (s.2 == 0 && true)) = (s.2 == 0)
    cases s.2 == 0 <;> rfl
  · have hp := mov_plc (mov_emb hs)
    unfold gnx
    rw [slw_even fl ke sw be we p q hp hi hg, bdv_even fl ke sw be we p q hp hi hg]
    refine (step2 hsl (bnd_in gr.be gq) (str_in hl i) s hs _ _).trans ?_
    unfold nx2
    split
    · rfl
    · split <;> rfl
end Go.Proofs.YtgpljldfbhkdlaaGreat

/- GlideParted: its text, and that it answers true. -/
namespace Go.Proofs.YtgpljldfbhkdlaaGreat
open Go.RowKit

--AT fsGe spL twV
def laterB (a : Int) (b : BrI) : BrI := (if 0 < IntKind.i64.wrap (b.1 - a) then IntKind.i64.wrap (b.1 - a) else 0, if 0 < IntKind.i64.wrap (b.2.1 - a) then IntKind.i64.wrap (b.2.1 - a) else 0, b.2.2.1, ())
def latT {α : Type} (N : Nat) (l : List BrI) (a : Int) (K : List BrI → Option α) : Option α :=
  afterL
    (iterL N
      (fun (x : List BrI × Int × Unit) =>
        bif decide (x.2.1 < (l.length : Int)) then
          if 0 ≤ x.2.1 ∧ x.2.1 < (l.length : Int) then
            if (x.1.length + ([laterB a (l.getD x.2.1.toNat brD)] : List BrI).length) * 24 ≤ room then some (.cont (x.1 ++ [laterB a (l.getD x.2.1.toNat brD)], IntKind.i64.wrap (x.2.1 + 1), ()))
            else none
          else none
        else some (.brk 0 (x.1, x.2.1, ())))
      ([], 0, ()))
    fun id y => if id = 0 then K y.1 else none
def eq5 (X Y U V S X' Y' U' V' S' : Int) : Bool := X == X' && (Y == Y' && true) && (U == U' && (V == V' && true) && (S == S' && true))
noncomputable def gpK {α : Type} (n Z2 X2 Y2 U2 V2 S2 N2 X1 Y1 U1 V1 S1 N1 X0 Y0 U0 V0 S0 N0 : Int) (k : AOut → Option α) : Option α :=
  bif decide (N1 < n) then
    bif Z2 == 0 then bif eq5 X2 Y2 U2 V2 S2 X1 Y1 U1 V1 S1 then bif eq5 X0 Y0 U0 V0 S0 X1 Y1 U1 V1 S1 then k (b1 (N0 == N1)) else k (b1 false) else k (b1 false) else k (b1 false)
  else bif Z2 == 0 then bif eq5 X2 Y2 U2 V2 S2 X0 Y0 U0 V0 S0 then k (b1 (IntKind.i64.wrap (N1 + N2) == N0)) else k (b1 false) else k (b1 false)
noncomputable def gpV {α : Type} (N : Nat) (cx cy sd w h : Int) (pb po : List Int) (fl ke sw be we : Int) (ax ay vx vy sp : Int) (l : List BrI) (n m nm : Int) (k : AOut → Option α) : Option α :=
  bif (rnZ (rnB cx cy sd w h pb po fl ke sw be we ax ay vx vy sp l nm) (gRL cx cy sd w h pb po fl ke sw be we ax ay vx vy sp l nm)) != 0 then k (b1 ((rnZ (rnB cx cy sd w h pb po fl ke sw be we ax ay vx vy sp l nm) (gRL cx cy sd w h pb po fl ke sw be we ax ay vx vy sp l nm)) != 0)) else bif (rnZ (rnB cx cy sd w h pb po fl ke sw be we ax ay vx vy sp l n) (gRL cx cy sd w h pb po fl ke sw be we ax ay vx vy sp l n)) != 0 then k (b1 ((rnZ (rnB cx cy sd w h pb po fl ke sw be we ax ay vx vy sp l nm) (gRL cx cy sd w h pb po fl ke sw be we ax ay vx vy sp l nm)) != 0))
  else latT N l (rnN (rnB cx cy sd w h pb po fl ke sw be we ax ay vx vy sp l n) (gRL cx cy sd w h pb po fl ke sw be we ax ay vx vy sp l n)) fun lat => gpK n (rnZ (rnB cx cy sd w h pb po fl ke sw be we (rnX (rnB cx cy sd w h pb po fl ke sw be we ax ay vx vy sp l n) (gRL cx cy sd w h pb po fl ke sw be we ax ay vx vy sp l n) (ax, ay, vx, vy, sp)) (rnY (rnB cx cy sd w h pb po fl ke sw be we ax ay vx vy sp l n) (gRL cx cy sd w h pb po fl ke sw be we ax ay vx vy sp l n) (ax, ay, vx, vy, sp)) (rnU (rnB cx cy sd w h pb po fl ke sw be we ax ay vx vy sp l n) (gRL cx cy sd w h pb po fl ke sw be we ax ay vx vy sp l n) (ax, ay, vx, vy, sp)) (rnV (rnB cx cy sd w h pb po fl ke sw be we ax ay vx vy sp l n) (gRL cx cy sd w h pb po fl ke sw be we ax ay vx vy sp l n) (ax, ay, vx, vy, sp)) (rnS (rnB cx cy sd w h pb po fl ke sw be we ax ay vx vy sp l n) (gRL cx cy sd w h pb po fl ke sw be we ax ay vx vy sp l n) (ax, ay, vx, vy, sp)) lat m) (gRL cx cy sd w h pb po fl ke sw be we (rnX (rnB cx cy sd w h pb po fl ke sw be we ax ay vx vy sp l n) (gRL cx cy sd w h pb po fl ke sw be we ax ay vx vy sp l n) (ax, ay, vx, vy, sp)) (rnY (rnB cx cy sd w h pb po fl ke sw be we ax ay vx vy sp l n) (gRL cx cy sd w h pb po fl ke sw be we ax ay vx vy sp l n) (ax, ay, vx, vy, sp)) (rnU (rnB cx cy sd w h pb po fl ke sw be we ax ay vx vy sp l n) (gRL cx cy sd w h pb po fl ke sw be we ax ay vx vy sp l n) (ax, ay, vx, vy, sp)) (rnV (rnB cx cy sd w h pb po fl ke sw be we ax ay vx vy sp l n) (gRL cx cy sd w h pb po fl ke sw be we ax ay vx vy sp l n) (ax, ay, vx, vy, sp)) (rnS (rnB cx cy sd w h pb po fl ke sw be we ax ay vx vy sp l n) (gRL cx cy sd w h pb po fl ke sw be we ax ay vx vy sp l n) (ax, ay, vx, vy, sp)) lat m)) (rnX (rnB cx cy sd w h pb po fl ke sw be we (rnX (rnB cx cy sd w h pb po fl ke sw be we ax ay vx vy sp l n) (gRL cx cy sd w h pb po fl ke sw be we ax ay vx vy sp l n) (ax, ay, vx, vy, sp)) (rnY (rnB cx cy sd w h pb po fl ke sw be we ax ay vx vy sp l n) (gRL cx cy sd w h pb po fl ke sw be we ax ay vx vy sp l n) (ax, ay, vx, vy, sp)) (rnU (rnB cx cy sd w h pb po fl ke sw be we ax ay vx vy sp l n) (gRL cx cy sd w h pb po fl ke sw be we ax ay vx vy sp l n) (ax, ay, vx, vy, sp)) (rnV (rnB cx cy sd w h pb po fl ke sw be we ax ay vx vy sp l n) (gRL cx cy sd w h pb po fl ke sw be we ax ay vx vy sp l n) (ax, ay, vx, vy, sp)) (rnS (rnB cx cy sd w h pb po fl ke sw be we ax ay vx vy sp l n) (gRL cx cy sd w h pb po fl ke sw be we ax ay vx vy sp l n) (ax, ay, vx, vy, sp)) lat m) (gRL cx cy sd w h pb po fl ke sw be we (rnX (rnB cx cy sd w h pb po fl ke sw be we ax ay vx vy sp l n) (gRL cx cy sd w h pb po fl ke sw be we ax ay vx vy sp l n) (ax, ay, vx, vy, sp)) (rnY (rnB cx cy sd w h pb po fl ke sw be we ax ay vx vy sp l n) (gRL cx cy sd w h pb po fl ke sw be we ax ay vx vy sp l n) (ax, ay, vx, vy, sp)) (rnU (rnB cx cy sd w h pb po fl ke sw be we ax ay vx vy sp l n) (gRL cx cy sd w h pb po fl ke sw be we ax ay vx vy sp l n) (ax, ay, vx, vy, sp)) (rnV (rnB cx cy sd w h pb po fl ke sw be we ax ay vx vy sp l n) (gRL cx cy sd w h pb po fl ke sw be we ax ay vx vy sp l n) (ax, ay, vx, vy, sp)) (rnS (rnB cx cy sd w h pb po fl ke sw be we ax ay vx vy sp l n) (gRL cx cy sd w h pb po fl ke sw be we ax ay vx vy sp l n) (ax, ay, vx, vy, sp)) lat m) ((rnX (rnB cx cy sd w h pb po fl ke sw be we ax ay vx vy sp l n) (gRL cx cy sd w h pb po fl ke sw be we ax ay vx vy sp l n) (ax, ay, vx, vy, sp)), (rnY (rnB cx cy sd w h pb po fl ke sw be we ax ay vx vy sp l n) (gRL cx cy sd w h pb po fl ke sw be we ax ay vx vy sp l n) (ax, ay, vx, vy, sp)), (rnU (rnB cx cy sd w h pb po fl ke sw be we ax ay vx vy sp l n) (gRL cx cy sd w h pb po fl ke sw be we ax ay vx vy sp l n) (ax, ay, vx, vy, sp)), (rnV (rnB cx cy sd w h pb po fl ke sw be we ax ay vx vy sp l n) (gRL cx cy sd w h pb po fl ke sw be we ax ay vx vy sp l n) (ax, ay, vx, vy, sp)), (rnS (rnB cx cy sd w h pb po fl ke sw be we ax ay vx vy sp l n) (gRL cx cy sd w h pb po fl ke sw be we ax ay vx vy sp l n) (ax, ay, vx, vy, sp)))) (rnY (rnB cx cy sd w h pb po fl ke sw be we (rnX (rnB cx cy sd w h pb po fl ke sw be we ax ay vx vy sp l n) (gRL cx cy sd w h pb po fl ke sw be we ax ay vx vy sp l n) (ax, ay, vx, vy, sp)) (rnY (rnB cx cy sd w h pb po fl ke sw be we ax ay vx vy sp l n) (gRL cx cy sd w h pb po fl ke sw be we ax ay vx vy sp l n) (ax, ay, vx, vy, sp)) (rnU (rnB cx cy sd w h pb po fl ke sw be we ax ay vx vy sp l n) (gRL cx cy sd w h pb po fl ke sw be we ax ay vx vy sp l n) (ax, ay, vx, vy, sp)) (rnV (rnB cx cy sd w h pb po fl ke sw be we ax ay vx vy sp l n) (gRL cx cy sd w h pb po fl ke sw be we ax ay vx vy sp l n) (ax, ay, vx, vy, sp)) (rnS (rnB cx cy sd w h pb po fl ke sw be we ax ay vx vy sp l n) (gRL cx cy sd w h pb po fl ke sw be we ax ay vx vy sp l n) (ax, ay, vx, vy, sp)) lat m) (gRL cx cy sd w h pb po fl ke sw be we (rnX (rnB cx cy sd w h pb po fl ke sw be we ax ay vx vy sp l n) (gRL cx cy sd w h pb po fl ke sw be we ax ay vx vy sp l n) (ax, ay, vx, vy, sp)) (rnY (rnB cx cy sd w h pb po fl ke sw be we ax ay vx vy sp l n) (gRL cx cy sd w h pb po fl ke sw be we ax ay vx vy sp l n) (ax, ay, vx, vy, sp)) (rnU (rnB cx cy sd w h pb po fl ke sw be we ax ay vx vy sp l n) (gRL cx cy sd w h pb po fl ke sw be we ax ay vx vy sp l n) (ax, ay, vx, vy, sp)) (rnV (rnB cx cy sd w h pb po fl ke sw be we ax ay vx vy sp l n) (gRL cx cy sd w h pb po fl ke sw be we ax ay vx vy sp l n) (ax, ay, vx, vy, sp)) (rnS (rnB cx cy sd w h pb po fl ke sw be we ax ay vx vy sp l n) (gRL cx cy sd w h pb po fl ke sw be we ax ay vx vy sp l n) (ax, ay, vx, vy, sp)) lat m) ((rnX (rnB cx cy sd w h pb po fl ke sw be we ax ay vx vy sp l n) (gRL cx cy sd w h pb po fl ke sw be we ax ay vx vy sp l n) (ax, ay, vx, vy, sp)), (rnY (rnB cx cy sd w h pb po fl ke sw be we ax ay vx vy sp l n) (gRL cx cy sd w h pb po fl ke sw be we ax ay vx vy sp l n) (ax, ay, vx, vy, sp)), (rnU (rnB cx cy sd w h pb po fl ke sw be we ax ay vx vy sp l n) (gRL cx cy sd w h pb po fl ke sw be we ax ay vx vy sp l n) (ax, ay, vx, vy, sp)), (rnV (rnB cx cy sd w h pb po fl ke sw be we ax ay vx vy sp l n) (gRL cx cy sd w h pb po fl ke sw be we ax ay vx vy sp l n) (ax, ay, vx, vy, sp)), (rnS (rnB cx cy sd w h pb po fl ke sw be we ax ay vx vy sp l n) (gRL cx cy sd w h pb po fl ke sw be we ax ay vx vy sp l n) (ax, ay, vx, vy, sp)))) (rnU (rnB cx cy sd w h pb po fl ke sw be we (rnX (rnB cx cy sd w h pb po fl ke sw be we ax ay vx vy sp l n) (gRL cx cy sd w h pb po fl ke sw be we ax ay vx vy sp l n) (ax, ay, vx, vy, sp)) (rnY (rnB cx cy sd w h pb po fl ke sw be we ax ay vx vy sp l n) (gRL cx cy sd w h pb po fl ke sw be we ax ay vx vy sp l n) (ax, ay, vx, vy, sp)) (rnU (rnB cx cy sd w h pb po fl ke sw be we ax ay vx vy sp l n) (gRL cx cy sd w h pb po fl ke sw be we ax ay vx vy sp l n) (ax, ay, vx, vy, sp)) (rnV (rnB cx cy sd w h pb po fl ke sw be we ax ay vx vy sp l n) (gRL cx cy sd w h pb po fl ke sw be we ax ay vx vy sp l n) (ax, ay, vx, vy, sp)) (rnS (rnB cx cy sd w h pb po fl ke sw be we ax ay vx vy sp l n) (gRL cx cy sd w h pb po fl ke sw be we ax ay vx vy sp l n) (ax, ay, vx, vy, sp)) lat m) (gRL cx cy sd w h pb po fl ke sw be we (rnX (rnB cx cy sd w h pb po fl ke sw be we ax ay vx vy sp l n) (gRL cx cy sd w h pb po fl ke sw be we ax ay vx vy sp l n) (ax, ay, vx, vy, sp)) (rnY (rnB cx cy sd w h pb po fl ke sw be we ax ay vx vy sp l n) (gRL cx cy sd w h pb po fl ke sw be we ax ay vx vy sp l n) (ax, ay, vx, vy, sp)) (rnU (rnB cx cy sd w h pb po fl ke sw be we ax ay vx vy sp l n) (gRL cx cy sd w h pb po fl ke sw be we ax ay vx vy sp l n) (ax, ay, vx, vy, sp)) (rnV (rnB cx cy sd w h pb po fl ke sw be we ax ay vx vy sp l n) (gRL cx cy sd w h pb po fl ke sw be we ax ay vx vy sp l n) (ax, ay, vx, vy, sp)) (rnS (rnB cx cy sd w h pb po fl ke sw be we ax ay vx vy sp l n) (gRL cx cy sd w h pb po fl ke sw be we ax ay vx vy sp l n) (ax, ay, vx, vy, sp)) lat m) ((rnX (rnB cx cy sd w h pb po fl ke sw be we ax ay vx vy sp l n) (gRL cx cy sd w h pb po fl ke sw be we ax ay vx vy sp l n) (ax, ay, vx, vy, sp)), (rnY (rnB cx cy sd w h pb po fl ke sw be we ax ay vx vy sp l n) (gRL cx cy sd w h pb po fl ke sw be we ax ay vx vy sp l n) (ax, ay, vx, vy, sp)), (rnU (rnB cx cy sd w h pb po fl ke sw be we ax ay vx vy sp l n) (gRL cx cy sd w h pb po fl ke sw be we ax ay vx vy sp l n) (ax, ay, vx, vy, sp)), (rnV (rnB cx cy sd w h pb po fl ke sw be we ax ay vx vy sp l n) (gRL cx cy sd w h pb po fl ke sw be we ax ay vx vy sp l n) (ax, ay, vx, vy, sp)), (rnS (rnB cx cy sd w h pb po fl ke sw be we ax ay vx vy sp l n) (gRL cx cy sd w h pb po fl ke sw be we ax ay vx vy sp l n) (ax, ay, vx, vy, sp)))) (rnV (rnB cx cy sd w h pb po fl ke sw be we (rnX (rnB cx cy sd w h pb po fl ke sw be we ax ay vx vy sp l n) (gRL cx cy sd w h pb po fl ke sw be we ax ay vx vy sp l n) (ax, ay, vx, vy, sp)) (rnY (rnB cx cy sd w h pb po fl ke sw be we ax ay vx vy sp l n) (gRL cx cy sd w h pb po fl ke sw be we ax ay vx vy sp l n) (ax, ay, vx, vy, sp)) (rnU (rnB cx cy sd w h pb po fl ke sw be we ax ay vx vy sp l n) (gRL cx cy sd w h pb po fl ke sw be we ax ay vx vy sp l n) (ax, ay, vx, vy, sp)) (rnV (rnB cx cy sd w h pb po fl ke sw be we ax ay vx vy sp l n) (gRL cx cy sd w h pb po fl ke sw be we ax ay vx vy sp l n) (ax, ay, vx, vy, sp)) (rnS (rnB cx cy sd w h pb po fl ke sw be we ax ay vx vy sp l n) (gRL cx cy sd w h pb po fl ke sw be we ax ay vx vy sp l n) (ax, ay, vx, vy, sp)) lat m) (gRL cx cy sd w h pb po fl ke sw be we (rnX (rnB cx cy sd w h pb po fl ke sw be we ax ay vx vy sp l n) (gRL cx cy sd w h pb po fl ke sw be we ax ay vx vy sp l n) (ax, ay, vx, vy, sp)) (rnY (rnB cx cy sd w h pb po fl ke sw be we ax ay vx vy sp l n) (gRL cx cy sd w h pb po fl ke sw be we ax ay vx vy sp l n) (ax, ay, vx, vy, sp)) (rnU (rnB cx cy sd w h pb po fl ke sw be we ax ay vx vy sp l n) (gRL cx cy sd w h pb po fl ke sw be we ax ay vx vy sp l n) (ax, ay, vx, vy, sp)) (rnV (rnB cx cy sd w h pb po fl ke sw be we ax ay vx vy sp l n) (gRL cx cy sd w h pb po fl ke sw be we ax ay vx vy sp l n) (ax, ay, vx, vy, sp)) (rnS (rnB cx cy sd w h pb po fl ke sw be we ax ay vx vy sp l n) (gRL cx cy sd w h pb po fl ke sw be we ax ay vx vy sp l n) (ax, ay, vx, vy, sp)) lat m) ((rnX (rnB cx cy sd w h pb po fl ke sw be we ax ay vx vy sp l n) (gRL cx cy sd w h pb po fl ke sw be we ax ay vx vy sp l n) (ax, ay, vx, vy, sp)), (rnY (rnB cx cy sd w h pb po fl ke sw be we ax ay vx vy sp l n) (gRL cx cy sd w h pb po fl ke sw be we ax ay vx vy sp l n) (ax, ay, vx, vy, sp)), (rnU (rnB cx cy sd w h pb po fl ke sw be we ax ay vx vy sp l n) (gRL cx cy sd w h pb po fl ke sw be we ax ay vx vy sp l n) (ax, ay, vx, vy, sp)), (rnV (rnB cx cy sd w h pb po fl ke sw be we ax ay vx vy sp l n) (gRL cx cy sd w h pb po fl ke sw be we ax ay vx vy sp l n) (ax, ay, vx, vy, sp)), (rnS (rnB cx cy sd w h pb po fl ke sw be we ax ay vx vy sp l n) (gRL cx cy sd w h pb po fl ke sw be we ax ay vx vy sp l n) (ax, ay, vx, vy, sp)))) (rnS (rnB cx cy sd w h pb po fl ke sw be we (rnX (rnB cx cy sd w h pb po fl ke sw be we ax ay vx vy sp l n) (gRL cx cy sd w h pb po fl ke sw be we ax ay vx vy sp l n) (ax, ay, vx, vy, sp)) (rnY (rnB cx cy sd w h pb po fl ke sw be we ax ay vx vy sp l n) (gRL cx cy sd w h pb po fl ke sw be we ax ay vx vy sp l n) (ax, ay, vx, vy, sp)) (rnU (rnB cx cy sd w h pb po fl ke sw be we ax ay vx vy sp l n) (gRL cx cy sd w h pb po fl ke sw be we ax ay vx vy sp l n) (ax, ay, vx, vy, sp)) (rnV (rnB cx cy sd w h pb po fl ke sw be we ax ay vx vy sp l n) (gRL cx cy sd w h pb po fl ke sw be we ax ay vx vy sp l n) (ax, ay, vx, vy, sp)) (rnS (rnB cx cy sd w h pb po fl ke sw be we ax ay vx vy sp l n) (gRL cx cy sd w h pb po fl ke sw be we ax ay vx vy sp l n) (ax, ay, vx, vy, sp)) lat m) (gRL cx cy sd w h pb po fl ke sw be we (rnX (rnB cx cy sd w h pb po fl ke sw be we ax ay vx vy sp l n) (gRL cx cy sd w h pb po fl ke sw be we ax ay vx vy sp l n) (ax, ay, vx, vy, sp)) (rnY (rnB cx cy sd w h pb po fl ke sw be we ax ay vx vy sp l n) (gRL cx cy sd w h pb po fl ke sw be we ax ay vx vy sp l n) (ax, ay, vx, vy, sp)) (rnU (rnB cx cy sd w h pb po fl ke sw be we ax ay vx vy sp l n) (gRL cx cy sd w h pb po fl ke sw be we ax ay vx vy sp l n) (ax, ay, vx, vy, sp)) (rnV (rnB cx cy sd w h pb po fl ke sw be we ax ay vx vy sp l n) (gRL cx cy sd w h pb po fl ke sw be we ax ay vx vy sp l n) (ax, ay, vx, vy, sp)) (rnS (rnB cx cy sd w h pb po fl ke sw be we ax ay vx vy sp l n) (gRL cx cy sd w h pb po fl ke sw be we ax ay vx vy sp l n) (ax, ay, vx, vy, sp)) lat m) ((rnX (rnB cx cy sd w h pb po fl ke sw be we ax ay vx vy sp l n) (gRL cx cy sd w h pb po fl ke sw be we ax ay vx vy sp l n) (ax, ay, vx, vy, sp)), (rnY (rnB cx cy sd w h pb po fl ke sw be we ax ay vx vy sp l n) (gRL cx cy sd w h pb po fl ke sw be we ax ay vx vy sp l n) (ax, ay, vx, vy, sp)), (rnU (rnB cx cy sd w h pb po fl ke sw be we ax ay vx vy sp l n) (gRL cx cy sd w h pb po fl ke sw be we ax ay vx vy sp l n) (ax, ay, vx, vy, sp)), (rnV (rnB cx cy sd w h pb po fl ke sw be we ax ay vx vy sp l n) (gRL cx cy sd w h pb po fl ke sw be we ax ay vx vy sp l n) (ax, ay, vx, vy, sp)), (rnS (rnB cx cy sd w h pb po fl ke sw be we ax ay vx vy sp l n) (gRL cx cy sd w h pb po fl ke sw be we ax ay vx vy sp l n) (ax, ay, vx, vy, sp)))) (rnN (rnB cx cy sd w h pb po fl ke sw be we (rnX (rnB cx cy sd w h pb po fl ke sw be we ax ay vx vy sp l n) (gRL cx cy sd w h pb po fl ke sw be we ax ay vx vy sp l n) (ax, ay, vx, vy, sp)) (rnY (rnB cx cy sd w h pb po fl ke sw be we ax ay vx vy sp l n) (gRL cx cy sd w h pb po fl ke sw be we ax ay vx vy sp l n) (ax, ay, vx, vy, sp)) (rnU (rnB cx cy sd w h pb po fl ke sw be we ax ay vx vy sp l n) (gRL cx cy sd w h pb po fl ke sw be we ax ay vx vy sp l n) (ax, ay, vx, vy, sp)) (rnV (rnB cx cy sd w h pb po fl ke sw be we ax ay vx vy sp l n) (gRL cx cy sd w h pb po fl ke sw be we ax ay vx vy sp l n) (ax, ay, vx, vy, sp)) (rnS (rnB cx cy sd w h pb po fl ke sw be we ax ay vx vy sp l n) (gRL cx cy sd w h pb po fl ke sw be we ax ay vx vy sp l n) (ax, ay, vx, vy, sp)) lat m) (gRL cx cy sd w h pb po fl ke sw be we (rnX (rnB cx cy sd w h pb po fl ke sw be we ax ay vx vy sp l n) (gRL cx cy sd w h pb po fl ke sw be we ax ay vx vy sp l n) (ax, ay, vx, vy, sp)) (rnY (rnB cx cy sd w h pb po fl ke sw be we ax ay vx vy sp l n) (gRL cx cy sd w h pb po fl ke sw be we ax ay vx vy sp l n) (ax, ay, vx, vy, sp)) (rnU (rnB cx cy sd w h pb po fl ke sw be we ax ay vx vy sp l n) (gRL cx cy sd w h pb po fl ke sw be we ax ay vx vy sp l n) (ax, ay, vx, vy, sp)) (rnV (rnB cx cy sd w h pb po fl ke sw be we ax ay vx vy sp l n) (gRL cx cy sd w h pb po fl ke sw be we ax ay vx vy sp l n) (ax, ay, vx, vy, sp)) (rnS (rnB cx cy sd w h pb po fl ke sw be we ax ay vx vy sp l n) (gRL cx cy sd w h pb po fl ke sw be we ax ay vx vy sp l n) (ax, ay, vx, vy, sp)) lat m)) (rnX (rnB cx cy sd w h pb po fl ke sw be we ax ay vx vy sp l n) (gRL cx cy sd w h pb po fl ke sw be we ax ay vx vy sp l n) (ax, ay, vx, vy, sp)) (rnY (rnB cx cy sd w h pb po fl ke sw be we ax ay vx vy sp l n) (gRL cx cy sd w h pb po fl ke sw be we ax ay vx vy sp l n) (ax, ay, vx, vy, sp)) (rnU (rnB cx cy sd w h pb po fl ke sw be we ax ay vx vy sp l n) (gRL cx cy sd w h pb po fl ke sw be we ax ay vx vy sp l n) (ax, ay, vx, vy, sp)) (rnV (rnB cx cy sd w h pb po fl ke sw be we ax ay vx vy sp l n) (gRL cx cy sd w h pb po fl ke sw be we ax ay vx vy sp l n) (ax, ay, vx, vy, sp)) (rnS (rnB cx cy sd w h pb po fl ke sw be we ax ay vx vy sp l n) (gRL cx cy sd w h pb po fl ke sw be we ax ay vx vy sp l n) (ax, ay, vx, vy, sp)) (rnN (rnB cx cy sd w h pb po fl ke sw be we ax ay vx vy sp l n) (gRL cx cy sd w h pb po fl ke sw be we ax ay vx vy sp l n)) (rnX (rnB cx cy sd w h pb po fl ke sw be we ax ay vx vy sp l nm) (gRL cx cy sd w h pb po fl ke sw be we ax ay vx vy sp l nm) (ax, ay, vx, vy, sp)) (rnY (rnB cx cy sd w h pb po fl ke sw be we ax ay vx vy sp l nm) (gRL cx cy sd w h pb po fl ke sw be we ax ay vx vy sp l nm) (ax, ay, vx, vy, sp)) (rnU (rnB cx cy sd w h pb po fl ke sw be we ax ay vx vy sp l nm) (gRL cx cy sd w h pb po fl ke sw be we ax ay vx vy sp l nm) (ax, ay, vx, vy, sp)) (rnV (rnB cx cy sd w h pb po fl ke sw be we ax ay vx vy sp l nm) (gRL cx cy sd w h pb po fl ke sw be we ax ay vx vy sp l nm) (ax, ay, vx, vy, sp)) (rnS (rnB cx cy sd w h pb po fl ke sw be we ax ay vx vy sp l nm) (gRL cx cy sd w h pb po fl ke sw be we ax ay vx vy sp l nm) (ax, ay, vx, vy, sp)) (rnN (rnB cx cy sd w h pb po fl ke sw be we ax ay vx vy sp l nm) (gRL cx cy sd w h pb po fl ke sw be we ax ay vx vy sp l nm)) k
set_option maxRecDepth 100000 in
theorem gpart_text (N n0 : Nat) (α : Type) (cx cy sd w h : Int) (pb po : List Int) (fl ke sw be we : Int) (ax ay vx vy sp : Int) (l : List BrI) (u v : Int) (k : AOut → Option α) : evFn real tab ((twV fsGe spL).env real tab N (n0 + 8)) N Tryz.f4 α [.agg [.int .i64 cx, .int .i64 cy, .int .i64 sd, .int .i64 w, .int .i64 h, .ro (.int .i64) pb, .ro (.int .i64) po, .int .i64 fl, .int .i64 ke, .int .i64 sw, .int .i64 be, .int .i64 we], .agg [.int .i64 ax, .int .i64 ay, .int .i64 vx, .int .i64 vy, .int .i64 sp], .ro (.recd (.cons (.int .i64) (.cons (.int .i64) (.cons (.int .i64) .nil)))) l, .int .u8 u, .int .u8 v] k =
    bif decide ((pb.length : Int) > 400) then k (b1 true) else bif decide ((po.length : Int) > 400) then k (b1 true) else bif decide ((l.length : Int) > 66) then k (b1 true)
    else gpV N cx cy sd w h pb po fl ke sw be we ax ay vx vy sp l ((IntKind.i64.wrap u).tmod 81) ((IntKind.i64.wrap v).tmod 81) (IntKind.i64.wrap ((IntKind.i64.wrap u).tmod 81 + (IntKind.i64.wrap v).tmod 81)) k := by kernel_rfl
theorem latT_fin {α : Type} (N : Nat) (l : List BrI) (hl : l.length ≤ 66) (hN : l.length < N) (a : Int) (K : List BrI → Option α) : latT N l a K = K (l.map (laterB a)) := by
  unfold latT
  refine (count_loop (fun i : Nat => ((l.take i).map (laterB a), (i : Int), ())) l.length (b := 0) (y := ((l.take l.length).map (laterB a), (l.length : Int), ())) (fun i hi => ?_) ?_ hN).trans ?_
  · simp only [lt_len hi, cond_true]
    rw [if_pos (in_len hi), i64_in ((i : Int) + 1) (by omega), Int.toNat_natCast]
    have hr : (((l.take i).map (laterB a)).length + ([laterB a (l.getD i brD)] : List BrI).length) * 24 ≤ room := by
      rw [List.length_map, List.length_take, List.length_singleton]
      simp only [room]; omega
    have e : (l.take (i + 1)).map (laterB a) = (l.take i).map (laterB a) ++ [laterB a (l.getD i brD)] := by
      rw [List.take_add_one, List.getElem?_eq_getElem hi, List.getD_eq_getElem?_getD, List.getElem?_eq_getElem hi, List.map_append]; rfl
    rw [if_pos hr, e]
    rfl
  · simp only [not_lt_len, cond_false]
  · rw [List.take_length]; rfl
/-! Runs, parted. -/
theorem runL_stop {S : Type} (nx : Nat → S → Option S) (z : S → Bool) : ∀ (n i : Nat) (s : S) l, runL nx z n i s = some l → l.length < n → z (lastD s l) = true
  | 0, i, s, l, h, hl => by omega
  | n + 1, i, s, l, h, hl => by
    unfold runL at h
    cases hz : z s
    · rw [hz, cond_false] at h
      cases hn : nx i s with
      | none => rw [hn] at h; cases h
      | some s' =>
        rw [hn] at h
        simp only at h
        cases hr : runL nx z n (i + 1) s' with
        | none => rw [hr] at h; cases h
        | some l' =>
          rw [hr] at h
          cases h
          exact runL_stop nx z n (i + 1) s' l' hr (by rw [List.length_cons] at hl; omega)
    · rw [hz] at h
      cases h
      exact hz
theorem runL_succ {S : Type} (nx : Nat → S → Option S) (z : S → Bool) (n i : Nat) (s : S) : runL nx z (n + 1) i s = bif z s then some [] else match nx i s with | none => none | some s' => match runL nx z n (i + 1) s' with | none => none | some l => some (s' :: l) := rfl
theorem runL_parts {S : Type} (nx : Nat → S → Option S) (z : S → Bool) (c : Nat) : ∀ (n i : Nat) (s : S), runL nx z (n + c) i s = match runL nx z n i s with | none => none | some l => if l.length < n then some l else match runL nx z c (i + n) (lastD s l) with | none => none | some l2 => some (l ++ l2)
  | 0, i, s => by
    rw [Nat.zero_add]
    show _ = if 0 < 0 then some [] else match runL nx z c (i + 0) s with | none => none | some l2 => some ([] ++ l2)
    rw [if_neg (by omega), Nat.add_zero]
    cases runL nx z c i s <;> rfl
  | n + 1, i, s => by
    rw [show n + 1 + c = n + c + 1 by omega, runL_succ, runL_succ]
    cases z s
    · simp only [cond_false]
      cases nx i s with
      | none => rfl
      | some s' =>
        simp only
        rw [runL_parts nx z c n (i + 1) s']
        cases runL nx z n (i + 1) s' with
        | none => rfl
        | some l =>
          simp only [List.length_cons, Nat.add_lt_add_iff_right]
          by_cases h : l.length < n
          · rw [if_pos h, if_pos h]
          · rw [if_neg h, if_neg h, show i + 1 + n = i + (n + 1) by omega]
            show _ = match runL nx z c (i + (n + 1)) (lastD s' l) with | none => none | some l2 => some (s' :: l ++ l2)
            cases runL nx z c (i + (n + 1)) (lastD s' l) <;> rfl
    · rfl
theorem runL_shift {S : Type} {nx nx' : Nat → S → Option S} (z : S → Bool) {c : Nat} (h : ∀ i s, nx' i s = nx (i + c) s) : ∀ (n i : Nat) (s : S), runL nx' z n i s = runL nx z n (i + c) s
  | 0, i, s => rfl
  | n + 1, i, s => by
    unfold runL
    rw [h i s]
    cases z s
    · simp only [cond_false]
      cases nx (i + c) s with
      | none => rfl
      | some s' =>
        simp only
        rw [runL_shift z h n (i + 1) s', show i + 1 + c = i + c + 1 by omega]
    · rfl
theorem lastD_app {S : Type} (s : S) (l l2 : List S) : lastD s (l ++ l2) = lastD (lastD s l) l2 := by unfold lastD; rw [List.foldl_append]
theorem runL_end2 {S : Type} (nx : Nat → S → Option S) (z : S → Bool) (n i : Nat) (s : S) (h : z s = true) : runL nx z n i s = some [] := by
  cases n with
  | zero => rfl
  | succ n => unfold runL; rw [h]; rfl
theorem later_is {a : Int} (ha : 0 ≤ a ∧ a ≤ 100) {b : BrI} (hb : brmB b = true) : laterB a b = (max 0 (b.1 - a), max 0 (b.2.1 - a), b.2.2.1, ()) := by
  have h := brm_iff.1 hb
  unfold laterB
  rw [i64_in (b.1 - a) (by omega), i64_in (b.2.1 - a) (by omega)]
  have e : ∀ x : Int, (if 0 < x then x else 0) = max 0 x := fun x => by split <;> omega
  rw [e, e]
theorem later_brm {a : Int} (ha : 0 ≤ a ∧ a ≤ 100) {b : BrI} (hb : brmB b = true) : brmB (laterB a b) = true := by
  have h := brm_iff.1 hb
  rw [later_is ha hb]
  refine brm_iff.2 ⟨?_, ?_, ?_, h.2.2.2.1, h.2.2.2.2⟩ <;> (simp only; omega)
theorem later_all {a : Int} (ha : 0 ≤ a ∧ a ≤ 100) (l : List BrI) (hl : l.all brmB = true) : (l.map (laterB a)).all brmB = true := by
  rw [List.all_map]
  exact List.all_eq_true.2 fun b hb => later_brm ha (List.all_eq_true.1 hl b hb)
theorem later_str {a : Int} (ha : 0 ≤ a ∧ a ≤ 100) {t : Int} (ht : 0 ≤ t) : ∀ (l : List BrI) (n : Int), l.all brmB = true → (l.map (laterB a)).foldl (strF t) n = l.foldl (strF (t + a)) n
  | [], n, _ => rfl
  | b :: l, n, hl => by
    rw [List.all_cons, Bool.and_eq_true] at hl
    have h := brm_iff.1 hl.1
    have e : strF t n (laterB a b) = strF (t + a) n b := by
      rw [later_is ha hl.1]
      unfold strF
      simp only
      have e1 : decide (max 0 (b.1 - a) ≤ t) = decide (b.1 ≤ t + a) := by rw [decide_eq_decide]; omega
      have e2 : decide (t < max 0 (b.2.1 - a)) = decide (t + a < b.2.1) := by rw [decide_eq_decide]; omega
      rw [e1, e2]
    rw [List.map_cons, List.foldl_cons, List.foldl_cons, e]
    exact later_str ha ht l _ hl.2
theorem eq5_self (X Y U V S : Int) : eq5 X Y U V S X Y U V S = true := by unfold eq5; simp
theorem last_movP (cx cy sd w h : Int) (pb po : List Int) (fl ke sw be we : Int) (l : List BrI) : ∀ (n i : Nat) (s : St5) L, mov5 s = true → runL (gnx cx cy sd w h pb po fl ke sw be we l) z5 n i s = some L → mov5 (lastD s L) = true
  | 0, i, s, L, hs, hr => by cases hr; exact hs
  | n + 1, i, s, L, hs, hr => by
    unfold runL at hr
    cases hz : z5 s
    · rw [hz, cond_false] at hr
      cases hn : gnx cx cy sd w h pb po fl ke sw be we l i s with
      | none => rw [hn] at hr; cases hr
      | some s' =>
        rw [hn] at hr
        simp only at hr
        cases hr' : runL (gnx cx cy sd w h pb po fl ke sw be we l) z5 n (i + 1) s' with
        | none => rw [hr'] at hr; cases hr
        | some L' =>
          rw [hr'] at hr
          cases hr
          exact last_movP cx cy sd w h pb po fl ke sw be we l n (i + 1) s' L' (gnx_mov _ _ _ _ _ _ _ _ _ _ _ _ l i s s' hs hn) hr'
    · rw [hz] at hr; cases hr; exact hs
theorem gp_fin {α : Type} (cx cy sd w h : Int) (pb po : List Int) (fl ke sw be we : Int) (ax ay vx vy sp : Int) (l : List BrI) (hlen : l.length ≤ 66) (n m : Int) (hn : 0 ≤ n ∧ n ≤ 80) (hm : 0 ≤ m ∧ m ≤ 80) (k : AOut → Option α) : gpV 100 cx cy sd w h pb po fl ke sw be we ax ay vx vy sp l n m (IntKind.i64.wrap (n + m)) k = k (b1 true) := by
  rw [i64_in (n + m) (by omega)]
  unfold gpV
  have ht : ∀ x : Int, 0 ≤ x ∧ x ≤ 160 → tckB x = true := fun x hx => by unfold tckB; rw [decide_eq_true hx.1, decide_eq_true (by omega)]; rfl
  have hBq : ∀ x : Int, 0 ≤ x ∧ x ≤ 160 → rnB cx cy sd w h pb po fl ke sw be we ax ay vx vy sp l x = (iceB cx cy sd w h pb po && graB fl ke sw be we && movB ax ay vx vy sp && brsB l) := fun x hx => by
    unfold rnB
    rw [ht x hx, Bool.and_true]
  rw [hBq n (by omega), hBq (n + m) (by omega)]
  cases hB : (iceB cx cy sd w h pb po && graB fl ke sw be we && movB ax ay vx vy sp && brsB l)
  · rfl
  simp only [Bool.and_eq_true] at hB
  obtain ⟨⟨⟨hi, hg⟩, hv⟩, hb⟩ := hB
  have hb' := hb
  unfold brsB at hb'
  rw [Bool.and_eq_true] at hb'
  have hl := hb'.2
  have hO : (gRL cx cy sd w h pb po fl ke sw be we ax ay vx vy sp l (n + m)) = match (gRL cx cy sd w h pb po fl ke sw be we ax ay vx vy sp l n) with | none => none | some L => if L.length < n.toNat then some L else match runL (gnx cx cy sd w h pb po fl ke sw be we l) z5 m.toNat n.toNat (lastD (ax, ay, vx, vy, sp) L) with | none => none | some L2 => some (L ++ L2) := by
    unfold gRL
    rw [show (n + m).toNat = n.toNat + m.toNat by omega, runL_parts]
    rw [Nat.zero_add]
    cases runL (gnx cx cy sd w h pb po fl ke sw be we l) z5 n.toNat 0 (ax, ay, vx, vy, sp) with
    | none => rfl
    | some L =>
      simp only
      cases runL (gnx cx cy sd w h pb po fl ke sw be we l) z5 m.toNat n.toNat (lastD (ax, ay, vx, vy, sp) L) <;> rfl
  cases hO1 : (gRL cx cy sd w h pb po fl ke sw be we ax ay vx vy sp l n) with
  | none =>
    rw [hO1] at hO
    rw [hO]; rfl
  | some L =>
    rw [hO1] at hO
    simp only at hO
    have hle : L.length ≤ n.toNat := runL_len _ _ _ _ _ _ hO1
    have hmov : mov5 (lastD (ax, ay, vx, vy, sp) L) = true := last_movP _ _ _ _ _ _ _ _ _ _ _ _ l _ _ _ L hv hO1
    cases hO0 : (gRL cx cy sd w h pb po fl ke sw be we ax ay vx vy sp l (n + m)) with
    | none => rfl
    | some L0 =>
      rw [hO0] at hO
      rw [show (rnZ true (some L0) != 0) = false from rfl, show (rnZ true (some L) != 0) = false from rfl, cond_false, cond_false, latT_fin 100 l hlen (by omega)]
      have eN : rnN true (some L) = (L.length : Int) := rfl
      have eN0 : rnN true (some L0) = (L0.length : Int) := rfl
      rw [eN, eN0]
      have ha : 0 ≤ (L.length : Int) ∧ (L.length : Int) ≤ 100 := by omega
      have hlat := later_all ha l hl
      have eq1 : rnX true (some L) (ax, ay, vx, vy, sp) = (lastD (ax, ay, vx, vy, sp) L).1 := rfl
      have eq2 : rnY true (some L) (ax, ay, vx, vy, sp) = (lastD (ax, ay, vx, vy, sp) L).2.1 := rfl
      have eq3 : rnU true (some L) (ax, ay, vx, vy, sp) = (lastD (ax, ay, vx, vy, sp) L).2.2.1 := rfl
      have eq4 : rnV true (some L) (ax, ay, vx, vy, sp) = (lastD (ax, ay, vx, vy, sp) L).2.2.2.1 := rfl
      have eq5' : rnS true (some L) (ax, ay, vx, vy, sp) = (lastD (ax, ay, vx, vy, sp) L).2.2.2.2 := rfl
      rw [eq1, eq2, eq3, eq4, eq5']
      have hB2 : rnB cx cy sd w h pb po fl ke sw be we (lastD (ax, ay, vx, vy, sp) L).1 (lastD (ax, ay, vx, vy, sp) L).2.1 (lastD (ax, ay, vx, vy, sp) L).2.2.1 (lastD (ax, ay, vx, vy, sp) L).2.2.2.1 (lastD (ax, ay, vx, vy, sp) L).2.2.2.2 (l.map (laterB (L.length : Int))) m = true := by
        unfold rnB
        rw [hi, hg, show movB (lastD (ax, ay, vx, vy, sp) L).1 (lastD (ax, ay, vx, vy, sp) L).2.1 (lastD (ax, ay, vx, vy, sp) L).2.2.1 (lastD (ax, ay, vx, vy, sp) L).2.2.2.1 (lastD (ax, ay, vx, vy, sp) L).2.2.2.2 = true from hmov, ht m (by omega)]
        unfold brsB
        rw [hlat, List.length_map, hb'.1]; rfl
      rw [hB2]
      have hsh : gRL cx cy sd w h pb po fl ke sw be we (lastD (ax, ay, vx, vy, sp) L).1 (lastD (ax, ay, vx, vy, sp) L).2.1 (lastD (ax, ay, vx, vy, sp) L).2.2.1 (lastD (ax, ay, vx, vy, sp) L).2.2.2.1 (lastD (ax, ay, vx, vy, sp) L).2.2.2.2 (l.map (laterB (L.length : Int))) m = runL (gnx cx cy sd w h pb po fl ke sw be we l) z5 m.toNat L.length (lastD (ax, ay, vx, vy, sp) L) := by
        unfold gRL
        refine (runL_shift z5 (c := L.length) (nx := gnx cx cy sd w h pb po fl ke sw be we l) (fun i s => ?_) m.toNat 0 (lastD (ax, ay, vx, vy, sp) L)).trans (by rw [Nat.zero_add])
        unfold gnx
        have e : strN (l.map (laterB (L.length : Int))) (i : Int) = strN l ((i + L.length : Nat) : Int) := by
          unfold strN
          rw [later_str ha (by omega) l 0 hl]
          rfl
        rw [e]
      rw [hsh]
      by_cases hlt : L.length < n.toNat
      · rw [if_pos hlt] at hO
        have hz := runL_stop _ _ _ _ _ _ hO1 hlt
        rw [runL_end2 (gnx cx cy sd w h pb po fl ke sw be we l) z5 m.toNat L.length (lastD (ax, ay, vx, vy, sp) L) hz]
        have : L0 = L := Option.some.inj hO
        subst this
        unfold gpK
        rw [decide_eq_true (show (L0.length : Int) < n by omega), cond_true, show (rnZ true (some ([] : List St5)) == 0) = true from rfl, cond_true]
        show (bif eq5 _ _ _ _ _ _ _ _ _ _ then _ else _) = _
        have e1 : rnX true (some ([] : List St5)) ((lastD (ax, ay, vx, vy, sp) L0).1, (lastD (ax, ay, vx, vy, sp) L0).2.1, (lastD (ax, ay, vx, vy, sp) L0).2.2.1, (lastD (ax, ay, vx, vy, sp) L0).2.2.2.1, (lastD (ax, ay, vx, vy, sp) L0).2.2.2.2) = (lastD (ax, ay, vx, vy, sp) L0).1 := rfl
        have e2 : rnY true (some ([] : List St5)) ((lastD (ax, ay, vx, vy, sp) L0).1, (lastD (ax, ay, vx, vy, sp) L0).2.1, (lastD (ax, ay, vx, vy, sp) L0).2.2.1, (lastD (ax, ay, vx, vy, sp) L0).2.2.2.1, (lastD (ax, ay, vx, vy, sp) L0).2.2.2.2) = (lastD (ax, ay, vx, vy, sp) L0).2.1 := rfl
        have e3 : rnU true (some ([] : List St5)) ((lastD (ax, ay, vx, vy, sp) L0).1, (lastD (ax, ay, vx, vy, sp) L0).2.1, (lastD (ax, ay, vx, vy, sp) L0).2.2.1, (lastD (ax, ay, vx, vy, sp) L0).2.2.2.1, (lastD (ax, ay, vx, vy, sp) L0).2.2.2.2) = (lastD (ax, ay, vx, vy, sp) L0).2.2.1 := rfl
        have e4 : rnV true (some ([] : List St5)) ((lastD (ax, ay, vx, vy, sp) L0).1, (lastD (ax, ay, vx, vy, sp) L0).2.1, (lastD (ax, ay, vx, vy, sp) L0).2.2.1, (lastD (ax, ay, vx, vy, sp) L0).2.2.2.1, (lastD (ax, ay, vx, vy, sp) L0).2.2.2.2) = (lastD (ax, ay, vx, vy, sp) L0).2.2.2.1 := rfl
        have e5 : rnS true (some ([] : List St5)) ((lastD (ax, ay, vx, vy, sp) L0).1, (lastD (ax, ay, vx, vy, sp) L0).2.1, (lastD (ax, ay, vx, vy, sp) L0).2.2.1, (lastD (ax, ay, vx, vy, sp) L0).2.2.2.1, (lastD (ax, ay, vx, vy, sp) L0).2.2.2.2) = (lastD (ax, ay, vx, vy, sp) L0).2.2.2.2 := rfl
        rw [e1, e2, e3, e4, e5, eq1, eq2, eq3, eq4, eq5', eq5_self, cond_true, cond_true, BEq.rfl]
      · rw [if_neg hlt] at hO
        have hLn : L.length = n.toNat := by omega
        rw [← hLn] at hO
        cases hr : runL (gnx cx cy sd w h pb po fl ke sw be we l) z5 m.toNat L.length (lastD (ax, ay, vx, vy, sp) L) with
        | none => rw [hr] at hO; cases hO
        | some L2 =>
          rw [hr] at hO
          have hL0 : L0 = L ++ L2 := Option.some.inj hO
          have hlen2 := runL_len _ _ _ _ _ _ hr
          have hP : lastD (ax, ay, vx, vy, sp) L0 = lastD (lastD (ax, ay, vx, vy, sp) L) L2 := by rw [hL0, lastD_app]
          unfold gpK
          rw [decide_eq_false (show ¬ (L.length : Int) < n by omega), cond_false, show (rnZ true (some L2) == 0) = true from rfl, cond_true]
          have f1 : rnX true (some L2) ((lastD (ax, ay, vx, vy, sp) L).1, (lastD (ax, ay, vx, vy, sp) L).2.1, (lastD (ax, ay, vx, vy, sp) L).2.2.1, (lastD (ax, ay, vx, vy, sp) L).2.2.2.1, (lastD (ax, ay, vx, vy, sp) L).2.2.2.2) = rnX true (some L0) (ax, ay, vx, vy, sp) := by show (lastD (lastD (ax, ay, vx, vy, sp) L) L2).1 = (lastD (ax, ay, vx, vy, sp) L0).1; rw [hP]
          have f2 : rnY true (some L2) ((lastD (ax, ay, vx, vy, sp) L).1, (lastD (ax, ay, vx, vy, sp) L).2.1, (lastD (ax, ay, vx, vy, sp) L).2.2.1, (lastD (ax, ay, vx, vy, sp) L).2.2.2.1, (lastD (ax, ay, vx, vy, sp) L).2.2.2.2) = rnY true (some L0) (ax, ay, vx, vy, sp) := by show (lastD (lastD (ax, ay, vx, vy, sp) L) L2).2.1 = (lastD (ax, ay, vx, vy, sp) L0).2.1; rw [hP]
          have f3 : rnU true (some L2) ((lastD (ax, ay, vx, vy, sp) L).1, (lastD (ax, ay, vx, vy, sp) L).2.1, (lastD (ax, ay, vx, vy, sp) L).2.2.1, (lastD (ax, ay, vx, vy, sp) L).2.2.2.1, (lastD (ax, ay, vx, vy, sp) L).2.2.2.2) = rnU true (some L0) (ax, ay, vx, vy, sp) := by show (lastD (lastD (ax, ay, vx, vy, sp) L) L2).2.2.1 = (lastD (ax, ay, vx, vy, sp) L0).2.2.1; rw [hP]
          have f4 : rnV true (some L2) ((lastD (ax, ay, vx, vy, sp) L).1, (lastD (ax, ay, vx, vy, sp) L).2.1, (lastD (ax, ay, vx, vy, sp) L).2.2.1, (lastD (ax, ay, vx, vy, sp) L).2.2.2.1, (lastD (ax, ay, vx, vy, sp) L).2.2.2.2) = rnV true (some L0) (ax, ay, vx, vy, sp) := by show (lastD (lastD (ax, ay, vx, vy, sp) L) L2).2.2.2.1 = (lastD (ax, ay, vx, vy, sp) L0).2.2.2.1; rw [hP]
          have f5 : rnS true (some L2) ((lastD (ax, ay, vx, vy, sp) L).1, (lastD (ax, ay, vx, vy, sp) L).2.1, (lastD (ax, ay, vx, vy, sp) L).2.2.1, (lastD (ax, ay, vx, vy, sp) L).2.2.2.1, (lastD (ax, ay, vx, vy, sp) L).2.2.2.2) = rnS true (some L0) (ax, ay, vx, vy, sp) := by show (lastD (lastD (ax, ay, vx, vy, sp) L) L2).2.2.2.2 = (lastD (ax, ay, vx, vy, sp) L0).2.2.2.2; rw [hP]
          rw [f1, f2, f3, f4, f5, eq5_self, cond_true, show rnN true (some L2) = (L2.length : Int) from rfl, i64_in _ (by omega), hL0, List.length_append]
          rw [show ((L.length : Int) + (L2.length : Int) == ((L.length + L2.length : Nat) : Int)) = true from by simp]
theorem u8_mod {u : Int} (h : 0 ≤ u ∧ u ≤ 255) : 0 ≤ (IntKind.i64.wrap u).tmod 81 ∧ (IntKind.i64.wrap u).tmod 81 ≤ 80 := by
  rw [i64_in u (by omega), Int.tmod_eq_emod_of_nonneg h.1]
  omega
theorem gpart_true (cx cy sd w h : Int) (pb po : List Int) (fl ke sw be we : Int) (ax ay vx vy sp : Int) (l : List BrI) (u v : Int) (hu : 0 ≤ u ∧ u ≤ 255) (hv : 0 ≤ v ∧ v ≤ 255) : evFn real tab ((twV fsGe spL).env real tab 100 8) 100 Tryz.f4 AOut [.agg [.int .i64 cx, .int .i64 cy, .int .i64 sd, .int .i64 w, .int .i64 h, .ro (.int .i64) pb, .ro (.int .i64) po, .int .i64 fl, .int .i64 ke, .int .i64 sw, .int .i64 be, .int .i64 we], .agg [.int .i64 ax, .int .i64 ay, .int .i64 vx, .int .i64 vy, .int .i64 sp], .ro (.recd (.cons (.int .i64) (.cons (.int .i64) (.cons (.int .i64) .nil)))) l, .int .u8 u, .int .u8 v] some = some (b1 true) := by
  refine (gpart_text 100 0 AOut cx cy sd w h pb po fl ke sw be we ax ay vx vy sp l u v some).trans ?_
  cases decide ((pb.length : Int) > 400)
  · cases decide ((po.length : Int) > 400)
    · cases h3 : decide ((l.length : Int) > 66)
      · have := of_decide_eq_false h3
        exact gp_fin cx cy sd w h pb po fl ke sw be we ax ay vx vy sp l (by omega) _ _ (u8_mod hu) (u8_mod hv) some
      · rfl
    · rfl
  · rfl
noncomputable def gpartF : List AVal → Option AOut := fun args => match args with
  | [.agg [.int .i64 cx, .int .i64 cy, .int .i64 sd, .int .i64 w, .int .i64 h, .ro (.int .i64) pb, .ro (.int .i64) po, .int .i64 fl, .int .i64 ke, .int .i64 sw, .int .i64 be, .int .i64 we], .agg [.int .i64 ax, .int .i64 ay, .int .i64 vx, .int .i64 vy, .int .i64 sp], .ro (.recd (.cons (.int .i64) (.cons (.int .i64) (.cons (.int .i64) .nil)))) l, .int .u8 u, .int .u8 v] => if (0 ≤ u ∧ u ≤ 255) ∧ (0 ≤ v ∧ v ≤ 255) then some (b1 true) else none
  | _ => none
theorem gpart_ok : FspOk Tryz.prog 4 (toFsp gpartF) := tower_V fsGe_ok spL_ok ⟨Tryz.func4, fun _ _ => by kernel_rfl⟩ (toFsp_nat _) fun args out hSm hq => by
  replace hq := toFsp_some hq
  unfold gpartF at hq
  split at hq
  · rename_i cx cy sd w h pb po fl ke sw be we ax ay vx vy sp l u v
    split at hq
    · rename_i hv
      cases hq
      exact ⟨100, 8, gpart_true cx cy sd w h pb po fl ke sw be we ax ay vx vy sp l u v hv.1 hv.2⟩
    · cases hq
  · cases hq
end Go.Proofs.YtgpljldfbhkdlaaGreat
