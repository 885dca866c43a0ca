/- Parts of the proof, in build order. -/
import Derived.Test.YtgpljldfbhkdlaaGreatM6
import Derived.Test.YtgpljldfbhkdlaaGreatM10
/- Glide in plain numbers: no tick makes a stone faster. -/
namespace Go.Proofs.YtgpljldfbhkdlaaGreat

theorem sw_sq (a : Int) : 0 ≤ a * a := by
  rcases Int.le_total 0 a with h | h
  · exact Int.mul_nonneg h h
  · have := Int.mul_nonneg (show 0 ≤ -a by omega) (show 0 ≤ -a by omega)
    rwa [Int.neg_mul_neg] at this
theorem sw_le {p q : Int} (hq : 0 ≤ q) (h : p * p ≤ q * q) : p ≤ q := by
  rcases Int.lt_or_le q p with c | c
  · have h1 : q * q ≤ q * p := Int.mul_le_mul_of_nonneg_left (by omega) hq
    have h2 : q * p < p * p := Int.mul_lt_mul_of_pos_right c (by omega)
    omega
  · exact c
theorem sw_sum {x y U : Int} (h : x*x+y*y ≤ U*U) (h2 : 0 ≤ U) : 2*(x+y) ≤ 3*U := by
  refine sw_le (by omega) ?_
  have := sw_sq (x-y)
  have := sw_sq U
  grind
theorem sw_sum2 {x y U : Int} (h : x*x+y*y ≤ U*U) (h2 : 0 ≤ U) : 4*(x+2*y) ≤ 9*U := by
  refine sw_le (by omega) ?_
  have := sw_sq (2*x-y)
  have := sw_sq U
  grind
/-- What is cut off a number's part. -/
theorem sw_cut {m x U b : Int} (h1 : m * (U - 1) ≤ 65536 * x) (h2 : 65536 * x ≤ (m + 1) * U) (hm : 0 ≤ m ∧ m ≤ 65536) (hb : 0 ≤ b ∧ b ≤ 65536) (hU : b ≤ U - 1) :
    0 ≤ m * b / 65536 ∧ U * (m * b / 65536) ≤ b * x + U ∧ b * x ≤ U * (m * b / 65536) + 2 * U ∧ m * b / 65536 ≤ x := by
  have hmb : 0 ≤ m * b := Int.mul_nonneg hm.1 hb.1
  have e1 := Int.emod_add_mul_ediv (m * b) 65536
  have e2 := Int.emod_nonneg (m * b) (show (65536 : Int) ≠ 0 by omega)
  have e3 := Int.emod_lt_of_pos (m * b) (show (0 : Int) < 65536 by omega)
  have q0 := Int.ediv_nonneg hmb (show (0 : Int) ≤ 65536 by omega)
  generalize hq : m * b / 65536 = q at *
  generalize hr : m * b % 65536 = r at *
  have t1 := Int.mul_le_mul_of_nonneg_left h1 hb.1
  have t2 := Int.mul_le_mul_of_nonneg_left h2 hb.1
  have t3 : m * b ≤ 65536 * b := Int.mul_le_mul_of_nonneg_right hm.2 hb.1
  have t4 : U * r ≤ U * 65536 := Int.mul_le_mul_of_nonneg_left (by omega) (by omega)
  have t5 : 0 ≤ U * r := Int.mul_nonneg (by omega) (by omega)
  have t6 : b * U ≤ 65536 * U := Int.mul_le_mul_of_nonneg_right hb.2 (by omega)
  have t7 : m * b ≤ m * (U - 1) := Int.mul_le_mul_of_nonneg_left hU hm.1
  have e4 : U * r + 65536 * (U * q) = U * (m * b) := by rw [← e1]; grind
  have e5 : b * (m * (U - 1)) = U * (m * b) - m * b := by grind
  have e6 : b * ((m + 1) * U) = U * (m * b) + b * U := by grind
  have e7 : b * (65536 * x) = 65536 * (b * x) := by grind
  refine ⟨q0, ?_, ?_, ?_⟩ <;> omega
theorem sw_tick {x y U b a px py c1 c2 : Int} (hx : 0 ≤ x) (hy : 0 ≤ y) (hs : x*x+y*y ≤ U*U) (hb : 1 ≤ b) (ha : 0 ≤ a ∧ a ≤ b) (hU : b ≤ U)
    (p1 : U * px ≤ x * (U - b) + 2 * U) (p2 : x * (U - b) ≤ U * px + U) (p0 : 0 ≤ px) (q1 : U * py ≤ y * (U - b) + 2 * U) (q2 : y * (U - b) ≤ U * py + U) (q0 : 0 ≤ py)
    (c11 : U * c1 ≤ a * y + U) (c10 : 0 ≤ c1) (c22 : a * x ≤ U * c2 + 2 * U) (c20 : 0 ≤ c2) (hc : c1 * c1 + c2 * c2 ≤ a * a) :
    px*px + py*py + c1*c1 + c2*c2 + 2*(px*c1 - py*c2) < (U+5)*(U+5) := by
  have hU0 : 0 < U := by omega
  generalize hM : U - b = M at *
  have hM0 : 0 ≤ M := by omega
  have xM : 0 ≤ x * M := Int.mul_nonneg hx hM0
  have yM : 0 ≤ y * M := Int.mul_nonneg hy hM0
  have xa : 0 ≤ a * x := Int.mul_nonneg ha.1 hx
  have ya : 0 ≤ a * y := Int.mul_nonneg ha.1 hy
  have Upx : 0 ≤ U * px := Int.mul_nonneg (by omega) p0
  have Upy : 0 ≤ U * py := Int.mul_nonneg (by omega) q0
  have Uc1 : 0 ≤ U * c1 := Int.mul_nonneg (by omega) c10
  have Uc2 : 0 ≤ U * c2 := Int.mul_nonneg (by omega) c20
  -- squares
  have s1 : (U*px)*(U*px) ≤ (x*M+2*U)*(x*M+2*U) := Int.mul_le_mul p1 p1 Upx (by omega)
  have s2 : (U*py)*(U*py) ≤ (y*M+2*U)*(y*M+2*U) := Int.mul_le_mul q1 q1 Upy (by omega)
  have s3 : (U*px)*(U*c1) ≤ (x*M+2*U)*(a*y+U) := Int.mul_le_mul p1 c11 Uc1 (by omega)
  -- from below
  have s4 : (y*M)*(a*x) - 2*(U*(y*M)) - U*(a*x) ≤ (U*py)*(U*c2) := by
    have h0 : 0 ≤ (U*py)*(U*c2) := Int.mul_nonneg Upy Uc2
    rcases Int.lt_or_le (y*M) U with k | k
    · have : (y*M)*(a*x) ≤ U*(a*x) := Int.mul_le_mul_of_nonneg_right (by omega) xa
      have := Int.mul_nonneg (show 0 ≤ U by omega) yM
      omega
    rcases Int.lt_or_le (a*x) (2*U) with k' | k'
    · have : (y*M)*(a*x) ≤ (y*M)*(2*U) := Int.mul_le_mul_of_nonneg_left (by omega) yM
      have := Int.mul_nonneg (show 0 ≤ U by omega) xa
      grind
    · have h1 : (y*M - U)*(a*x - 2*U) ≤ (U*py)*(U*c2) := Int.mul_le_mul (by omega) (by omega) (by omega) Upy
      have := sw_sq U
      grind
  have m1 : (x*x+y*y)*(M*M) ≤ (U*U)*(M*M) := Int.mul_le_mul_of_nonneg_right hs (sw_sq M)
  have m2 : (2*(x+y))*(U*M) ≤ (3*U)*(U*M) := Int.mul_le_mul_of_nonneg_right (sw_sum hs (by omega)) (Int.mul_nonneg (by omega) hM0)
  have m3 : (4*(x+2*y))*(U*M) ≤ (9*U)*(U*M) := Int.mul_le_mul_of_nonneg_right (sw_sum2 hs (by omega)) (Int.mul_nonneg (by omega) hM0)
  have m4 : (4*(x+2*y))*(U*a) ≤ (9*U)*(U*a) := Int.mul_le_mul_of_nonneg_right (sw_sum2 hs (by omega)) (Int.mul_nonneg (by omega) ha.1)
  have m5 : (U*U)*(c1*c1+c2*c2) ≤ (U*U)*(a*a) := Int.mul_le_mul_of_nonneg_left hc (sw_sq U)
  -- all
  have key : 2*(U*U*(px*px + py*py + c1*c1 + c2*c2 + 2*(px*c1 - py*c2))) ≤ (U*U)*(2*(M*M) + 21*M + 24 + 2*(a*a) + 9*a) := by
    grind
  have fin : 2*(M*M) + 21*M + 24 + 2*(a*a) + 9*a < 2*((U+5)*(U+5)) := by
    have e : U = M + b := by omega
    have f1 : a*a ≤ b*b := Int.mul_le_mul ha.2 ha.2 ha.1 (by omega)
    have f2 : M*1 ≤ M*b := Int.mul_le_mul_of_nonneg_left hb hM0
    subst e
    grind
  have pU : 0 < U*U := Int.mul_pos hU0 hU0
  have l := Int.mul_lt_mul_of_pos_left fin pU
  refine Int.lt_of_mul_lt_mul_left (a := 2*(U*U)) ?_ (by omega)
  grind
end Go.Proofs.YtgpljldfbhkdlaaGreat

/- Glide: ice that is the same everywhere; runs without brooms. -/
namespace Go.Proofs.YtgpljldfbhkdlaaGreat
open Go.RowKit

--AT fsG7 spL twN
set_option maxRecDepth 100000 in
theorem geven_text (α : Type) (fl ke sw be we : Int) (p q : Int) (k : AOut → Option α) : evFn real tab ((twN fsG7 spL).env real tab 12 8) 12 Tryz.f13 α [.agg [.int .i64 fl, .int .i64 ke, .int .i64 sw, .int .i64 be, .int .i64 we], .int .u16 p, .int .u16 q] k =
    k (.ret (.agg [iN (-6553600000), iN (-6553600000), iN 6553600000, iN 3, iN 3, .ro (.int .i64) (List.replicate 9 ((IntKind.i64.wrap p).tmod 1001) : List Int), .ro (.int .i64) (List.replicate 9 ((IntKind.i64.wrap q).tmod 1001) : List Int), iN fl, iN ke, iN sw, iN be, iN we])) := by kernel_rfl
--FIN geven | besom/besomlaw04.even | $GB (p q : Int) | $GR, .int .u16 p, .int .u16 q | .ret (.agg [iN (-6553600000), iN (-6553600000), iN 6553600000, iN 3, iN 3, .ro (.int .i64) (List.replicate 9 ((IntKind.i64.wrap p).tmod 1001) : List Int), .ro (.int .i64) (List.replicate 9 ((IntKind.i64.wrap q).tmod 1001) : List Int), iN fl, iN ke, iN sw, iN be, iN we])
theorem geven_fin (fl ke sw be we : Int) (p q : Int) (hs : ∀ qSm ∈ ([.agg [.int .i64 fl, .int .i64 ke, .int .i64 sw, .int .i64 be, .int .i64 we], .int .u16 p, .int .u16 q] : List AVal), Sm qSm) : ∃ N n, ∀ α (k : AOut → Option α), evFn real tab ((twN fsG7 spL).env real tab N n) N Tryz.f13 α [.agg [.int .i64 fl, .int .i64 ke, .int .i64 sw, .int .i64 be, .int .i64 we], .int .u16 p, .int .u16 q] k = k (.ret (.agg [iN (-6553600000), iN (-6553600000), iN 6553600000, iN 3, iN 3, .ro (.int .i64) (List.replicate 9 ((IntKind.i64.wrap p).tmod 1001) : List Int), .ro (.int .i64) (List.replicate 9 ((IntKind.i64.wrap q).tmod 1001) : List Int), iN fl, iN ke, iN sw, iN be, iN we])) := by
  exact ⟨12, 8, fun α k => geven_text α fl ke sw be we p q k⟩
--CON geven
noncomputable def gevenS : Fsp := fun _ args k => match args with
  | [.agg [.int .i64 fl, .int .i64 ke, .int .i64 sw, .int .i64 be, .int .i64 we], .int .u16 p, .int .u16 q] => k (.ret (.agg [iN (-6553600000), iN (-6553600000), iN 6553600000, iN 3, iN 3, .ro (.int .i64) (List.replicate 9 ((IntKind.i64.wrap p).tmod 1001) : List Int), .ro (.int .i64) (List.replicate 9 ((IntKind.i64.wrap q).tmod 1001) : List Int), iN fl, iN ke, iN sw, iN be, iN we]))
  | _ => none
theorem gevenS_ok : FspOk Tryz.prog 13 gevenS := tower_N fsG7_ok spL_ok ⟨Tryz.func13, fun _ _ => by kernel_rfl⟩ (by intro α args k; unfold gevenS; split <;> rfl) fun args out hSm hEq => by
  unfold gevenS at hEq
  split at hEq
  · rename_i fl ke sw be we p q
    obtain ⟨N, n, e⟩ := geven_fin fl ke sw be we p q hSm
    exact ⟨N, n, (e AOut some).trans hEq⟩
  · cases hEq
--END
/-! Runs without brooms. -/
noncomputable def grF0 {α : Type} (cx cy sd w h : Int) (pb po : List Int) (fl ke sw be we : Int) (m : Int) (R : Option α) (x : S12) : Option (LRes S12 α) := grF cx cy sd w h pb po fl ke sw be we [] m R x
--AT fsG6 spG twY
set_option maxRecDepth 100000 in
theorem gRun0_text (N n0 : Nat) (α : Type) (cx cy sd w h : Int) (pb po : List Int) (fl ke sw be we : Int) (ax ay vx vy sp : Int) (m : Int) (k : AOut → Option α) : evFn real tab ((twY fsG6 spG).env real tab N (n0 + 12)) N Tryz.f14 α [.agg [.int .i64 cx, .int .i64 cy, .int .i64 sd, .int .i64 w, .int .i64 h, .ro (.int .i64) pb, .ro (.int .i64) po], .agg [.int .i64 fl, .int .i64 ke, .int .i64 sw, .int .i64 be, .int .i64 we], .agg [.int .i64 ax, .int .i64 ay, .int .i64 vx, .int .i64 vy, .int .i64 sp], .nils, .int .i64 m] k =
    bif !(iceB cx cy sd w h pb po && graB fl ke sw be we && movB ax ay vx vy sp) then k (rnErr 2)
    else bif decide (0 ≤ m) then bif !decide (m ≤ 6000) then k (rnErr 2) else grT N cx cy sd w h pb po fl ke sw be we ax ay vx vy sp [] m k else k (rnErr 2) := by kernel_rfl
noncomputable def gRunNS : Fsp := fun _ args k => match args with
  | [.agg [.int .i64 cx, .int .i64 cy, .int .i64 sd, .int .i64 w, .int .i64 h, .ro (.int .i64) pb, .ro (.int .i64) po], .agg [.int .i64 fl, .int .i64 ke, .int .i64 sw, .int .i64 be, .int .i64 we], .agg [.int .i64 ax, .int .i64 ay, .int .i64 vx, .int .i64 vy, .int .i64 sp], .ro (.recd (.cons (.int .i64) (.cons (.int .i64) (.cons (.int .i64) .nil)))) l, .int .i64 m] => k (rnO (rnB cx cy sd w h pb po fl ke sw be we ax ay vx vy sp l m) (gRL cx cy sd w h pb po fl ke sw be we ax ay vx vy sp l m) (ax, ay, vx, vy, sp))
  | [.agg [.int .i64 cx, .int .i64 cy, .int .i64 sd, .int .i64 w, .int .i64 h, .ro (.int .i64) pb, .ro (.int .i64) po], .agg [.int .i64 fl, .int .i64 ke, .int .i64 sw, .int .i64 be, .int .i64 we], .agg [.int .i64 ax, .int .i64 ay, .int .i64 vx, .int .i64 vy, .int .i64 sp], .nils, .int .i64 m] => k (rnO (rnB cx cy sd w h pb po fl ke sw be we ax ay vx vy sp [] m) (gRL cx cy sd w h pb po fl ke sw be we ax ay vx vy sp [] m) (ax, ay, vx, vy, sp))
  | _ => none
theorem gRunNS_ok : FspOk Tryz.prog 14 gRunNS := tower_Y fsG6_ok spG_ok ⟨Tryz.func14, fun _ _ => by kernel_rfl⟩ (by intro α args k; unfold gRunNS; split <;> rfl) fun args out hSm hEq => by
  unfold gRunNS at hEq
  split at hEq
  · rename_i cx cy sd w h pb po fl ke sw be we ax ay vx vy sp l m
    obtain ⟨N, n, e⟩ := gRun_fin cx cy sd w h pb po fl ke sw be we ax ay vx vy sp l m hSm
    exact ⟨N, n, (e AOut some).trans hEq⟩
  · rename_i cx cy sd w h pb po fl ke sw be we ax ay vx vy sp m
    refine ⟨m.toNat + 1, 12, (gRun0_text (m.toNat + 1) 0 AOut cx cy sd w h pb po fl ke sw be we ax ay vx vy sp m some).trans (Eq.trans ?_ hEq)⟩
    have hG := fun hi hg hm h0 => grT_fin (α := AOut) cx cy sd w h pb po fl ke sw be we ax ay vx vy sp [] m hi hg hm rfl h0 some
    unfold rnB tckB
    cases hi : iceB cx cy sd w h pb po
    · rfl
    cases hg : graB fl ke sw be we
    · rfl
    cases hm : movB ax ay vx vy sp
    · rfl
    cases h1 : decide (0 ≤ m)
    · rfl
    cases h2 : decide (m ≤ 6000)
    · rfl
    exact hG hi hg hm ⟨of_decide_eq_true h1, of_decide_eq_true h2⟩
  · cases hEq
--FS fsGe | fsG7 | gRunN=besom/glide.Run;geven=besom/besomlaw04.even;galive=besom/besomlaw04.alive;gup=besom/besomlaw04.up
noncomputable def fsGe : FuncId → Option Fsp := fun g =>
  if g = 14 then some gRunNS else
  if g = 13 then some gevenS else
  if g = 12 then some galiveS else
  if g = 16 then some gupS else
  fsG7 g
theorem fsGe_ok : FsOk fsGe :=
  fs_cons gRunNS_ok <|
  fs_cons gevenS_ok <|
  fs_cons galiveS_ok <|
  fs_cons gupS_ok <|
  fsG7_ok
--END

/-! Even ice, plain. -/
abbrev evP (p : Int) : Int := (IntKind.i64.wrap p).tmod 1001
theorem hgt_even (p : Int) {x y : Int} (hp : plcB x y = true) : hgt (List.replicate 9 p) (-6553600000) (-6553600000) 6553600000 3 3 x y = p := by
  rw [plc_iff] at hp
  have hc : inCel (-6553600000) (-6553600000) 6553600000 3 3 x y = true := by
    unfold inCel
    rw [decide_eq_true (by omega), decide_eq_true (by omega), decide_eq_true (by omega), decide_eq_true (by omega)]; rfl
  unfold hgt
  rw [hc, cond_true]
  unfold celC
  have a : 0 ≤ (y - -6553600000) / 6553600000 ∧ (y - -6553600000) / 6553600000 ≤ 2 := by omega
  have b : 0 ≤ (x - -6553600000) / 6553600000 ∧ (x - -6553600000) / 6553600000 ≤ 2 := by omega
  rw [List.getD_eq_getElem?_getD, List.getElem?_replicate, if_pos (by omega)]
  rfl
/-- How even ice brakes, and bends. -/
theorem slw_even (fl ke sw be we : Int) (p q : Int) {x y : Int} (hp : plcB x y = true) (hi : iceB (-6553600000) (-6553600000) 6553600000 3 3 (List.replicate 9 p) (List.replicate 9 q) = true) (hg : graB fl ke sw be we = true) : slwV (-6553600000) (-6553600000) 6553600000 3 3 (List.replicate 9 p) (List.replicate 9 q) fl ke sw be we x y = brkV fl ke sw p q := by
  unfold slwV
  rw [hi, hg, hp, hgt_even p hp, hgt_even q hp]; rfl
theorem bdv_even (fl ke sw be we : Int) (p q : Int) {x y : Int} (hp : plcB x y = true) (hi : iceB (-6553600000) (-6553600000) 6553600000 3 3 (List.replicate 9 p) (List.replicate 9 q) = true) (hg : graB fl ke sw be we = true) : bdvV (-6553600000) (-6553600000) 6553600000 3 3 (List.replicate 9 p) (List.replicate 9 q) fl ke sw be we x y = bndV be q := by
  unfold bdvV
  rw [hi, hg, hp, hgt_even q hp]; rfl
theorem ice_even {p q : Int} (hi : iceB (-6553600000) (-6553600000) 6553600000 3 3 (List.replicate 9 p) (List.replicate 9 q) = true) : Gr1 p ∧ Gr1 q := by
  have g := ice_is _ _ _ _ _ _ _ hi
  have h1 := g.pg
  have h2 := g.og
  simp only [List.replicate, List.all_cons, Bool.and_eq_true] at h1 h2
  exact ⟨in_dec.1 h1.1, in_dec.1 h2.1⟩
theorem mov_plc {s : St5} (h : mov5 s = true) : plcB s.1 s.2.1 = true := (plc_iff ..).2 (mov_iff.1 h).1
/-- A run, seen through a map of its states. -/
theorem runL_map {S S' : Type} {nx : Nat → S → Option S} {nx' : Nat → S' → Option S'} {z : S → Bool} {z' : S' → Bool} (f : S → S') (inv : S → Prop) (hz : ∀ s, inv s → z' (f s) = z s) (hn : ∀ i s, inv s → nx' i (f s) = (nx i s).map f) (hi : ∀ i s s', inv s → nx i s = some s' → inv s') :
    ∀ (n i : Nat) (s : S), inv s → runL nx' z' n i (f s) = (runL nx z n i s).map (List.map f)
  | 0, i, s, _ => rfl
  | n + 1, i, s, h => by
    unfold runL
    rw [hz s h, hn i s h]
    cases z s
    · simp only [cond_false]
      cases hs : nx i s with
      | none => rfl
      | some s' =>
        simp only [Option.map_some]
        rw [runL_map f inv hz hn hi n (i + 1) s' (hi i s s' h hs)]
        cases runL nx z n (i + 1) s' <;> rfl
    · rfl
theorem lastD_map {S S' : Type} (f : S → S') : ∀ (l : List S) (s : S), lastD (f s) (l.map f) = f (lastD s l)
  | [], _ => rfl
  | x :: l, s => lastD_map f l x

/-! A stone without spin that goes along Y. -/
theorem shr_full {v : Int} (h0 : 0 < v) (h1 : v ≤ 65536000) : shr v (v * v) = 65536 := by
  have hx : okB 0 = true := rfl
  have hy : okB v = true := ok_iff.2 (by omega)
  have hs : sq2 0 v = v * v := by unfold sq2; rw [ab_pos (x := v) (by omega)]; show 0 * 0 + v * v = v * v; omega
  have hp : 0 < v * v := Int.mul_pos h0 h0
  obtain ⟨_, s2⟩ := shB_of hx hy (by rw [hs]; omega)
  have b := shr_in s2
  rw [vw_hl, hs, ab_pos (x := v) (by omega)] at b
  obtain ⟨b0, b1, b2, b3⟩ := b
  simp only [shrP, decide_eq_false_iff_not] at b3
  have t : (((shr v (v * v)).toNat + 1 : Nat) : Int) = shr v (v * v) + 1 := by omega
  rw [t] at b3
  generalize shr v (v * v) = m at *
  rcases Int.lt_or_le m 65536 with c | c
  · have h2 : (m + 1) * (m + 1) ≤ 65536 * 65536 := Int.mul_le_mul (by omega) (by omega) (by omega) (by omega)
    have h3 : (m + 1) * (m + 1) * (v * v) ≤ 65536 * 65536 * (v * v) := Int.mul_le_mul_of_nonneg_right h2 (by omega)
    omega
  · omega
theorem shr_none {v : Int} (h0 : 0 < v) (h1 : v ≤ 65536000) : shr 0 (v * v) = 0 := by
  have hx : okB 0 = true := rfl
  have hy : okB v = true := ok_iff.2 (by omega)
  have hs : sq2 0 v = v * v := by unfold sq2; rw [ab_pos (x := v) (by omega)]; show 0 * 0 + v * v = v * v; omega
  have hp : 0 < v * v := Int.mul_pos h0 h0
  obtain ⟨s1, _⟩ := shB_of hx hy (by rw [hs]; omega)
  have b := shr_in s1
  rw [vw_hl, hs, show ab 0 = 0 from rfl] at b
  obtain ⟨b0, b1, b2, b3⟩ := b
  simp only [shrP, decide_eq_true_eq] at b2
  have t : ((shr 0 (v * v)).toNat : Int) = shr 0 (v * v) := by omega
  rw [t] at b2
  generalize shr 0 (v * v) = m at *
  rcases Int.lt_or_le 0 m with c | c
  · have h2 : 1 * 1 ≤ m * m := Int.mul_le_mul (by omega) (by omega) (by omega) (by omega)
    have h3 : 1 * 1 * (v * v) ≤ m * m * (v * v) := Int.mul_le_mul_of_nonneg_right h2 (by omega)
    omega
  · omega
theorem uni_up {v : Int} (h0 : 0 < v) (h1 : v ≤ 65536000) : uniV 0 v 0 = 0 ∧ uniV 0 v v = 65536 := by
  have hs : sq2 0 v = v * v := by unfold sq2; rw [ab_pos (x := v) (by omega)]; show 0 * 0 + v * v = v * v; omega
  have hp : 0 < v * v := Int.mul_pos h0 h0
  have hz : (v * v == 0) = false := beq_eq_false_iff_ne.2 (by omega)
  unfold uniV uniB
  rw [hs, hz, ok_iff.2 (show -70368744177664 ≤ v ∧ v ≤ 70368744177664 by omega), show ab 0 = 0 from rfl, ab_pos (x := v) (by omega), shr_full h0 h1, shr_none h0 h1, ng_pos (x := v) (by omega)]
  exact ⟨rfl, rfl⟩
theorem len_upY {v : Int} (h0 : 0 ≤ v) (h1 : v ≤ 65536000) : lenV 0 v 1 = v := by
  have hs : sq2 0 v = v * v := by unfold sq2; rw [ab_pos (x := v) h0]; show 0 * 0 + v * v = v * v; omega
  obtain ⟨_, l2, _, _⟩ := len_down (vx := 0) (vy := v) ⟨by omega, by omega⟩ ⟨by omega, h1⟩
  rw [l2, hs]
  have hm : v * v ≤ 65536000 * 65536000 := Int.mul_le_mul h1 h1 h0 (by omega)
  obtain ⟨r0, r1, r2, _⟩ := rt_spec (s := v * v) (Int.mul_nonneg h0 h0) (by omega)
  have a : rt (v * v) ≤ v := sw_le h0 r1
  have b : v < rt (v * v) + 1 := by
    rcases Int.lt_or_le v (rt (v * v) + 1) with c | c
    · exact c
    · have := Int.mul_le_mul c c (by omega) h0
      omega
  omega
/-- Its state: the place, and the speed. -/
abbrev St2 := Int × Int
def emb2 (s : St2) : St5 := (0, s.1, 0, s.2, 0)
def z2 (s : St2) : Bool := s.2 == 0
def nx2 (B : Nat → Int) (i : Nat) (s : St2) : Option St2 := if s.2 ≤ B i then some (s.1, 0) else if s.1 + (s.2 - B i) ≤ 6553600000 then some (s.1 + (s.2 - B i), s.2 - B i) else none
def inv2 (s : St2) : Prop := (0 ≤ s.1 ∧ s.1 ≤ 6553600000) ∧ (0 ≤ s.2 ∧ s.2 ≤ 65536000)
theorem nx2_inv {B : Nat → Int} (hB : ∀ i, 0 ≤ B i) (i : Nat) (s s' : St2) (h : inv2 s) (hn : nx2 B i s = some s') : inv2 s' := by
  obtain ⟨⟨a1, a2⟩, b1, b2⟩ := h
  have := hB i
  unfold nx2 at hn
  split at hn
  · cases hn; exact ⟨⟨a1, a2⟩, ⟨Int.le_refl _, by show (0 : Int) ≤ 65536000; omega⟩⟩
  · split at hn
    · cases hn
      refine ⟨⟨?_, ?_⟩, ⟨?_, ?_⟩⟩ <;> (simp only; omega)
    · cases hn
theorem mov_emb {s : St2} (h : inv2 s) : mov5 (emb2 s) = true := by
  obtain ⟨⟨a1, a2⟩, b1, b2⟩ := h
  show movB 0 s.1 0 s.2 0 = true
  exact mov_iff.2 ⟨⟨⟨by omega, by omega⟩, ⟨by omega, by omega⟩⟩, ⟨⟨by omega, by omega⟩, ⟨by omega, by omega⟩⟩, ⟨by omega, by omega⟩⟩
theorem step2 {sl bd : Int} (hsl : 0 ≤ sl ∧ sl ≤ 65536) (hbd : 0 ≤ bd ∧ bd ≤ 65536) {n : Int} (hn : 0 ≤ n ∧ n ≤ 1000) {β : Type} (s : St2) (h : inv2 s) (r : Int → Int → Int → Int → Int → β) (z : β) :
    tkStep sl bd 0 s.1 0 s.2 0 n r z = if s.2 ≤ tkB sl n then r 0 s.1 0 0 0 else if s.1 + (s.2 - tkB sl n) ≤ 6553600000 then r 0 (s.1 + (s.2 - tkB sl n)) 0 (s.2 - tkB sl n) 0 else z := by
  obtain ⟨⟨a1, a2⟩, b1, b2⟩ := h
  have t : TkOk sl bd 0 s.1 0 s.2 0 n := ⟨hsl, hbd, ⟨by omega, by omega⟩, ⟨by omega, by omega⟩, ⟨by omega, by omega⟩, ⟨by omega, by omega⟩, ⟨by omega, by omega⟩, hn⟩
  have g := tk_is t
  have gb := g.b
  unfold tkStep
  have hR : tkR sl 0 s.2 n = decide (s.2 ≤ tkB sl n) := by unfold tkR; rw [len_upY b1 b2]
  rw [hR]
  by_cases hle : s.2 ≤ tkB sl n
  · rw [decide_eq_true hle, if_pos hle]; rfl
  · rw [decide_eq_false hle, if_neg hle, cond_false]
    obtain ⟨u1, u2⟩ := uni_up (v := s.2) (by omega) b2
    have z1 : ∀ a, cutP a 0 = 0 := fun a => by unfold cutP; rw [show ab 0 = 0 from rfl, Int.mul_zero, Int.zero_ediv]; cases xorB (ngB a) (ngB 0) <;> rfl
    have z0 : ∀ a, cutP 0 a = 0 := fun a => by unfold cutP; rw [show ab 0 = 0 from rfl, Int.zero_mul, Int.zero_ediv]; cases xorB (ngB 0) (ngB a) <;> rfl
    have hC : tkC bd n 0 = 0 := by unfold tkC spnV; rw [show ab 0 = 0 from rfl, Int.mul_zero, Int.zero_ediv]; rfl
    have hBB : cutP 65536 (tkB sl n) = tkB sl n := by
      unfold cutP
      rw [ng_pos gb.1, ab_pos gb.1, show ab 65536 = 65536 from rfl, Int.mul_ediv_cancel_left _ (by omega)]; rfl
    have vX : tkVX sl bd 0 s.2 0 n = 0 := by unfold tkVX; rw [u1, u2, hC, z1, z0, z1]; omega
    have vY : tkVY sl bd 0 s.2 0 n = s.2 - tkB sl n := by unfold tkVY; rw [u1, u2, hC, z1, z1, hBB]; omega
    have hM : tkM sl bd 0 s.1 0 s.2 0 n = decide (s.1 + (s.2 - tkB sl n) ≤ 6553600000) := by
      unfold tkM
      rw [vX, vY]
      by_cases hp : s.1 + (s.2 - tkB sl n) ≤ 6553600000
      · rw [decide_eq_true hp]
        exact mov_iff.2 ⟨⟨⟨by omega, by omega⟩, ⟨by omega, by omega⟩⟩, ⟨⟨by omega, by omega⟩, ⟨by omega, by omega⟩⟩, ⟨by omega, by omega⟩⟩
      · rw [decide_eq_false hp]
        refine Bool.eq_false_iff.2 fun hm => ?_
        have := (mov_iff.1 hm).1.2.2
        omega
    rw [hM, vX, vY]
    by_cases hp : s.1 + (s.2 - tkB sl n) ≤ 6553600000
    · rw [decide_eq_true hp, if_pos hp, cond_true]; rfl
    · rw [decide_eq_false hp, if_neg hp, cond_false]
/-- The run of such a stone on even ice. -/
theorem run2 (fl ke sw be we : Int) (p q : Int) (hi : iceB (-6553600000) (-6553600000) 6553600000 3 3 (List.replicate 9 p) (List.replicate 9 q) = true) (hg : graB fl ke sw be we = true) (l : List BrI) (hl : l.all brmB = true) (v m : Int) (hv : 0 ≤ v ∧ v ≤ 65536000) :
    gRL (-6553600000) (-6553600000) 6553600000 3 3 (List.replicate 9 p) (List.replicate 9 q) fl ke sw be we 0 0 0 v 0 l m = (runL (nx2 fun i => tkB (brkV fl ke sw p q) (strN l i)) z2 m.toNat 0 (0, v)).map (List.map emb2) := by
  obtain ⟨gp, gq⟩ := ice_even hi
  have gr := gra_is _ _ _ _ _ hg
  have h1 := brk_in gr gp gq
  have h2 := gr.fl
  have hsl : 0 ≤ brkV fl ke sw p q ∧ brkV fl ke sw p q ≤ 65536 := by omega
  have hB : ∀ i : Nat, 0 ≤ tkB (brkV fl ke sw p q) (strN l i) := fun i => by
    have hs := str_in hl i
    have := scl_in hsl (n := 5000 - strN l i) (d := 5000) ⟨by omega, by omega⟩ (by omega)
    exact this.1
  unfold gRL
  refine runL_map (nx' := gnx (-6553600000) (-6553600000) 6553600000 3 3 (List.replicate 9 p) (List.replicate 9 q) fl ke sw be we l) (z' := z5) emb2 inv2 (fun s _ => ?_) (fun i s hs => ?_) (fun i s s' hs hn => nx2_inv hB i s s' hs hn) m.toNat 0 (0, v) ⟨⟨by show (0:Int) ≤ 0; omega, by show (0:Int) ≤ 6553600000; omega⟩, hv⟩
  · show ((0 : Int) == 0 && (s.2 == 0 && true)) = (s.2 == 0)
    cases s.2 == 0 <;> rfl
  · have hp := mov_plc (mov_emb hs)
    unfold gnx
    rw [slw_even fl ke sw be we p q hp hi hg, bdv_even fl ke sw be we p q hp hi hg]
    refine (step2 hsl (bnd_in gr.be gq) (str_in hl i) s hs _ _).trans ?_
    unfold nx2
    split
    · rfl
    · split <;> rfl
end Go.Proofs.YtgpljldfbhkdlaaGreat

/- Parts of numbers: how they compare; plain facts. -/
namespace Go.Proofs.YtgpljldfbhkdlaaGreat

theorem vl_split : ∀ (l : List Int) (i : Nat), i ≤ l.length → vl l = vl (l.take i) + 32768 ^ i * vl (l.drop i)
  | l, 0, _ => by simp [vl]
  | [], i + 1, h => by simp at h
  | x :: r, i + 1, h => by
    have ih := vl_split r i (by simpa using h)
    simp only [List.take_succ_cons, List.drop_succ_cons, vl, Int.pow_succ]
    rw [ih, Int.mul_add, Int.mul_comm (32768 ^ i) 32768, Int.mul_assoc]
    omega
theorem low_take {l : List Int} (h : low15 l) (i : Nat) : low15 (l.take i) := fun x hx => h x (List.mem_of_mem_take hx)
theorem low_drop {l : List Int} (h : low15 l) (i : Nat) : low15 (l.drop i) := fun x hx => h x (List.mem_of_mem_drop hx)
theorem dg_ge : ∀ n, 0 ≤ n → n ≠ 0 → 32768 ^ ((dg n).length - 1) ≤ n := dg_ind (fun h => absurd rfl h) fun n h ih _ => by
  rw [dg_pos h]
  simp only [List.length_cons, Nat.add_sub_cancel]
  by_cases hz : n / 32768 = 0
  · rw [hz, dg_zero]; simp; omega
  · have h1 := ih hz
    have hne : dg (n / 32768) ≠ [] := fun e => hz ((dg_nil (by omega)).1 e)
    obtain ⟨m, hm⟩ : ∃ m, (dg (n / 32768)).length = m + 1 := ⟨(dg (n / 32768)).length - 1, by have := List.length_pos_iff.2 hne; omega⟩
    rw [hm] at h1 ⊢
    simp only [Nat.add_sub_cancel] at h1
    rw [Int.pow_succ]
    omega
theorem dg_lt (n : Int) (h : 0 ≤ n) : n < 32768 ^ (dg n).length := by
  have := vl_lt (low_dg n h)
  rw [vl_dg n h] at this
  exact this
theorem pow_mono {i j : Nat} (h : i ≤ j) : (32768 : Int) ^ i ≤ 32768 ^ j := by
  obtain ⟨k, rfl⟩ : ∃ k, j = i + k := ⟨j - i, by omega⟩
  rw [Int.pow_add]
  have h1 := pow15 i
  have h2 := pow15 k
  have := Int.mul_le_mul_of_nonneg_left (show 1 ≤ (32768 : Int) ^ k by omega) (Int.le_of_lt h1)
  omega
theorem dg_len_lt {a b : Int} (ha : 0 ≤ a) (hb : 0 ≤ b) (h : (dg a).length < (dg b).length) : a < b := by
  have h1 := dg_lt a ha
  have hz : b ≠ 0 := fun e => by subst e; simp [dg_zero] at h
  have h2 := dg_ge b hb hz
  have := pow_mono (show (dg a).length ≤ (dg b).length - 1 by omega)
  omega
/-- The first part from above that differs. -/
theorem dg_top {a b : Int} (ha : 0 ≤ a) (hb : 0 ≤ b) {i : Nat} (hia : i < (dg a).length) (hib : i < (dg b).length) (he : (dg a).drop (i + 1) = (dg b).drop (i + 1)) (h : (dg a).getD i 0 < (dg b).getD i 0) : a < b := by
  have s1 := vl_split (dg a) (i + 1) (by omega)
  have s2 := vl_split (dg b) (i + 1) (by omega)
  rw [vl_dg a ha] at s1
  rw [vl_dg b hb, ← he] at s2
  rw [vl_take _ _ hia] at s1
  rw [vl_take _ _ hib] at s2
  have t1 := vl_lt (low_take (low_dg a ha) i)
  have t2 := vl_nn (low_take (low_dg b hb) i)
  rw [List.length_take, Nat.min_eq_left (by omega)] at t1
  have := Int.mul_le_mul_of_nonneg_right (show (dg a).getD i 0 + 1 ≤ (dg b).getD i 0 by omega) (Int.le_of_lt (pow15 i))
  rw [Int.add_mul] at this
  omega
theorem dg_eq {a b : Int} (ha : 0 ≤ a) (hb : 0 ≤ b) (h : dg a = dg b) : a = b := dg_inj ha hb h
theorem trim_dg {l : List Int} (h : low15 l) : trimL l = dg (vl l) := (dg_vl h).symm
theorem vl_app (l m : List Int) : vl (l ++ m) = vl l + 32768 ^ l.length * vl m := by
  have := vl_split (l ++ m) l.length (by simp)
  rw [List.take_left', List.drop_left'] at this
  · exact this
  · rfl
  · rfl
/-- A number with one more part at its top. -/
theorem dg_snoc {l : List Int} {x : Int} (hl : low15 l) (hx : 0 < x ∧ x < 32768) : dg (vl l + x * 32768 ^ l.length) = l ++ [x] := by
  rw [← vl_append]
  have h2 : low15 (l ++ [x]) := low_app hl ⟨by omega, hx.2⟩
  rw [dg_vl h2]
  clear hl h2
  induction l with
  | nil => simp [trimL]; omega
  | cons a r ih =>
    simp only [List.cons_append, trimL, ih]
    split
    · rename_i e; exact absurd e (by simp)
    · rfl
end Go.Proofs.YtgpljldfbhkdlaaGreat

/- Parts of numbers: products, sums, differences; plain facts about the reference's loops. -/
namespace Go.Proofs.YtgpljldfbhkdlaaGreat

/-! Products. -/
def inC (x : Int) (b : List Int) (i : Nat) (s : Int × List Int) (k : Nat) : Int := s.1 + s.2.getD (i + k) 0 + x * b.getD k 0
def inSt (x : Int) (b : List Int) (i : Nat) (out : List Int) : Nat → Int × List Int
  | 0 => (0, out)
  | k + 1 => (inC x b i (inSt x b i out k) k / 32768, (inSt x b i out k).2.set (i + k) (inC x b i (inSt x b i out k) k % 32768))

structure InIs (x : Int) (b : List Int) (i : Nat) (out : List Int) (k : Nat) : Prop where
  len : (inSt x b i out k).2.length = out.length
  low : low15 (inSt x b i out k).2
  c : 0 ≤ (inSt x b i out k).1 ∧ (inSt x b i out k).1 < 32768
  vl : vl (inSt x b i out k).2 + (inSt x b i out k).1 * 32768 ^ (i + k) = vl out + x * vl (b.take k) * 32768 ^ i
  rest : ∀ j, i + k ≤ j → (inSt x b i out k).2.getD j 0 = out.getD j 0
theorem inC_in {x : Int} {b : List Int} {i : Nat} {out : List Int} (hx : 0 ≤ x ∧ x < 32768) (hb : low15 b) {k : Nat} (h : InIs x b i out k) : 0 ≤ inC x b i (inSt x b i out k) k ∧ inC x b i (inSt x b i out k) k < 1073741824 := by
  have h1 := h.c
  have h2 := low_get h.low (i + k)
  have h3 := low_get hb k
  have h4 : 0 ≤ x * b.getD k 0 := Int.mul_nonneg hx.1 h3.1
  have h5 : x * b.getD k 0 ≤ 32767 * 32767 := Int.mul_le_mul (by omega) (by omega) h3.1 (by omega)
  unfold inC
  omega
theorem in_is {x : Int} {b : List Int} {i : Nat} {out : List Int} (hx : 0 ≤ x ∧ x < 32768) (hb : low15 b) (ho : low15 out) (hl : i + b.length < out.length) : ∀ k, k ≤ b.length → InIs x b i out k
  | 0, _ => ⟨rfl, ho, by simp [inSt], by simp [inSt, vl], fun j _ => rfl⟩
  | k + 1, hk => by
    have h := in_is hx hb ho hl k (by omega)
    have hc := inC_in hx hb h
    have hlen := h.len
    refine ⟨by simp [inSt, hlen], ?_, ?_, ?_, fun j hj => ?_⟩
    · exact low_set h.low (by omega)
    · simp only [inSt]; omega
    · simp only [inSt]
      rw [vl_set _ _ _ (by omega), vl_take _ _ (by omega)]
      have hv := h.vl
      have e : inC x b i (inSt x b i out k) k % 32768 = inC x b i (inSt x b i out k) k - 32768 * (inC x b i (inSt x b i out k) k / 32768) := by omega
      rw [e]
      generalize hq : inC x b i (inSt x b i out k) k / 32768 = q
      have ec : inC x b i (inSt x b i out k) k = (inSt x b i out k).1 + (inSt x b i out k).2.getD (i + k) 0 + x * b.getD k 0 := rfl
      rw [ec]
      have p1 : (32768 : Int) ^ (i + (k + 1)) = 32768 ^ (i + k) * 32768 := by rw [← Nat.add_assoc, Int.pow_succ]
      have p2 : (32768 : Int) ^ (i + k) = 32768 ^ k * 32768 ^ i := by rw [Nat.add_comm, Int.pow_add]
      rw [p1]
      have e3 : x * (vl (b.take k) + b.getD k 0 * 32768 ^ k) * 32768 ^ i = x * vl (b.take k) * 32768 ^ i + x * b.getD k 0 * 32768 ^ (i + k) := by
        rw [p2, Int.mul_add, Int.add_mul]; simp only [Int.mul_assoc]
      rw [e3, ← Int.add_assoc, ← hv]
      generalize (32768 : Int) ^ (i + k) = P
      generalize (inSt x b i out k).2.getD (i + k) 0 = o
      generalize x * b.getD k 0 = m
      generalize (inSt x b i out k).1 = c
      have e4 : (c + o + m - 32768 * q - o) * P + q * (P * 32768) = c * P + m * P := by
        have : c + o + m - 32768 * q - o = c + m - 32768 * q := by omega
        rw [this, Int.sub_mul, Int.add_mul, Int.mul_comm P 32768, ← Int.mul_assoc q, Int.mul_comm q 32768]
        omega
      rw [Int.add_assoc, e4]; omega
    · simp only [inSt]
      rw [List.getD_eq_getElem?_getD, List.getElem?_set_ne (by omega), ← List.getD_eq_getElem?_getD]
      exact h.rest j (by omega)

def outSt (a b : List Int) : Nat → List Int
  | 0 => List.replicate (a.length + b.length) 0
  | i + 1 => (inSt (a.getD i 0) b i (outSt a b i) b.length).2.set (i + b.length) (inSt (a.getD i 0) b i (outSt a b i) b.length).1
structure OutIs (a b : List Int) (i : Nat) : Prop where
  len : (outSt a b i).length = a.length + b.length
  low : low15 (outSt a b i)
  vl : vl (outSt a b i) = vl (a.take i) * vl b
  rest : ∀ j, i + b.length ≤ j → (outSt a b i).getD j 0 = 0
theorem out_is {a b : List Int} (ha : low15 a) (hb : low15 b) : ∀ i, i ≤ a.length → OutIs a b i
  | 0, _ => ⟨by simp [outSt], fun x hx => by simp [outSt] at hx; omega, by simp [outSt, vl_zeros, vl], fun j hj => by simp [outSt, List.getD_eq_getElem?_getD, List.getElem?_replicate]; split <;> rfl⟩
  | i + 1, hi => by
    have h := out_is ha hb i (by omega)
    have hlen := h.len
    have k := in_is (low_get ha i) hb h.low (i := i) (by omega) b.length (Nat.le_refl _)
    have hr := k.rest (i + b.length) (Nat.le_refl _)
    rw [h.rest _ (Nat.le_refl _)] at hr
    have kl := k.len
    refine ⟨by simp only [outSt, List.length_set, kl, hlen], low_set k.low k.c, ?_, fun j hj => ?_⟩
    · simp only [outSt]
      rw [vl_set _ _ _ (by omega), hr, Int.sub_zero, k.vl, List.take_length, h.vl, vl_take _ _ (by omega), Int.add_mul]
      rw [Int.mul_assoc (a.getD i 0) (32768 ^ i), Int.mul_comm (32768 ^ i) (vl b), Int.mul_assoc]
    · simp only [outSt]
      rw [List.getD_eq_getElem?_getD, List.getElem?_set_ne (by omega), ← List.getD_eq_getElem?_getD, k.rest j (by omega)]
      exact h.rest j (by omega)
theorem out_dg {a b : List Int} (ha : isDg a = true) (hb : isDg b = true) : trimL (outSt a b a.length) = dg (vl a * vl b) := by
  rw [isDg_iff] at ha hb
  have la : low15 a := by rw [ha.1]; exact low_dg _ ha.2
  have lb : low15 b := by rw [hb.1]; exact low_dg _ hb.2
  have h := out_is la lb a.length (Nat.le_refl _)
  rw [trim_dg h.low, h.vl, List.take_length]

/-! Sums. -/
def plC (a b : List Int) (s : Int × List Int) (i : Nat) : Int := s.1 + a.getD i 0 + b.getD i 0
def plSt (a b : List Int) : Nat → Int × List Int
  | 0 => (0, [])
  | i + 1 => (plC a b (plSt a b i) i / 32768, (plSt a b i).2 ++ [plC a b (plSt a b i) i % 32768])
structure PlIs (a b : List Int) (i : Nat) : Prop where
  len : (plSt a b i).2.length = i
  low : low15 (plSt a b i).2
  c : 0 ≤ (plSt a b i).1 ∧ (plSt a b i).1 ≤ 1
  vl : vl (plSt a b i).2 + (plSt a b i).1 * 32768 ^ i = vl (a.take i) + vl (b.take i)
theorem vl_take' (l : List Int) (i : Nat) : vl (l.take (i + 1)) = vl (l.take i) + l.getD i 0 * 32768 ^ i := by
  rcases Nat.lt_or_ge i l.length with h | h
  · exact vl_take l i h
  · rw [List.take_of_length_le (by omega), List.take_of_length_le h, List.getD_eq_getElem?_getD, List.getElem?_eq_none h]; simp
theorem pl_is {a b : List Int} (ha : low15 a) (hb : low15 b) : ∀ i, PlIs a b i
  | 0 => ⟨rfl, fun x hx => by simp [plSt] at hx, by simp [plSt], by simp [plSt, vl]⟩
  | i + 1 => by
    have h := pl_is ha hb i
    have h1 := h.c
    have h2 := low_get ha i
    have h3 := low_get hb i
    have hl := h.len
    have hc : 0 ≤ plC a b (plSt a b i) i ∧ plC a b (plSt a b i) i < 65536 := by unfold plC; omega
    refine ⟨by simp [plSt, hl], low_app h.low (by omega), by simp only [plSt]; omega, ?_⟩
    simp only [plSt]
    rw [vl_append, hl, vl_take', vl_take', Int.pow_succ]
    have hv := h.vl
    have e : plC a b (plSt a b i) i % 32768 = plC a b (plSt a b i) i - 32768 * (plC a b (plSt a b i) i / 32768) := by omega
    rw [e]
    have ec : plC a b (plSt a b i) i = (plSt a b i).1 + a.getD i 0 + b.getD i 0 := rfl
    generalize plC a b (plSt a b i) i / 32768 = q
    rw [ec]
    generalize (32768 : Int) ^ i = P at *
    generalize (plSt a b i).1 = c at *
    generalize a.getD i 0 = x
    generalize b.getD i 0 = y
    rw [Int.sub_mul, Int.add_mul, Int.add_mul, Int.mul_comm P 32768, ← Int.mul_assoc q, Int.mul_comm q 32768]
    omega

/-! Differences. -/
def mnD (a b : List Int) (s : Int × List Int) (i : Nat) : Int := a.getD i 0 - s.1 - b.getD i 0
def mnSt (a b : List Int) : Nat → Int × List Int
  | 0 => (0, [])
  | i + 1 => (if mnD a b (mnSt a b i) i < 0 then 1 else 0, (mnSt a b i).2 ++ [if mnD a b (mnSt a b i) i < 0 then mnD a b (mnSt a b i) i + 32768 else mnD a b (mnSt a b i) i])
structure MnIs (a b : List Int) (i : Nat) : Prop where
  len : (mnSt a b i).2.length = i
  low : low15 (mnSt a b i).2
  c : 0 ≤ (mnSt a b i).1 ∧ (mnSt a b i).1 ≤ 1
  vl : vl (mnSt a b i).2 - (mnSt a b i).1 * 32768 ^ i = vl (a.take i) - vl (b.take i)
theorem mn_is {a b : List Int} (ha : low15 a) (hb : low15 b) : ∀ i, MnIs a b i
  | 0 => ⟨rfl, fun x hx => by simp [mnSt] at hx, by simp [mnSt], by simp [mnSt, vl]⟩
  | i + 1 => by
    have h := mn_is ha hb i
    have h1 := h.c
    have h2 := low_get ha i
    have h3 := low_get hb i
    have hl := h.len
    have hd : -32768 ≤ mnD a b (mnSt a b i) i ∧ mnD a b (mnSt a b i) i < 32768 := by unfold mnD; omega
    have hv := h.vl
    refine ⟨by simp [mnSt, hl], low_app h.low (by split <;> omega), by simp only [mnSt]; split <;> omega, ?_⟩
    simp only [mnSt]
    rw [vl_append, hl, vl_take', vl_take', Int.pow_succ]
    have ec : mnD a b (mnSt a b i) i = a.getD i 0 - (mnSt a b i).1 - b.getD i 0 := rfl
    generalize mnD a b (mnSt a b i) i = D at *
    generalize (32768 : Int) ^ i = P at *
    generalize (mnSt a b i).1 = c at *
    generalize a.getD i 0 = x at *
    generalize b.getD i 0 = y at *
    have e : D * P = x * P - c * P - y * P := by rw [ec, Int.sub_mul, Int.sub_mul]
    split
    · rw [Int.add_mul, Int.one_mul, Int.mul_comm P]; omega
    · omega
theorem mn_dg {a b : Int} (hb : 0 ≤ b) (h : b ≤ a) : trimL (mnSt (dg a) (dg b) (dg a).length).2 = dg (a - b) := by
  have ha : 0 ≤ a := by omega
  have k := mn_is (low_dg a ha) (low_dg b hb) (dg a).length
  rw [trim_dg k.low]
  have hv := k.vl
  have hlen : (dg b).length ≤ (dg a).length := by
    rcases Nat.lt_or_ge (dg a).length (dg b).length with hlt | hge
    · have := dg_len_lt ha hb hlt; omega
    · exact hge
  rw [List.take_length, List.take_of_length_le hlen, vl_dg a ha, vl_dg b hb] at hv
  have hlt := vl_lt k.low
  rw [k.len] at hlt
  have hp := pow15 (dg a).length
  have hc := k.c
  have : (mnSt (dg a) (dg b) (dg a).length).1 = 0 := by
    rcases Int.lt_or_le 0 (mnSt (dg a) (dg b) (dg a).length).1 with h1 | h1
    · have e1 : (mnSt (dg a) (dg b) (dg a).length).1 = 1 := by omega
      rw [e1] at hv; omega
    · omega
  rw [this] at hv
  congr 1
  omega
end Go.Proofs.YtgpljldfbhkdlaaGreat

/- Parts of numbers that are not too great: what contracts ask. -/
namespace Go.Proofs.YtgpljldfbhkdlaaGreat

/-- Is it the parts of a number below 2^180? -/
def isD (l : List Int) : Bool := isDg l && decide (vl l < 1532495540865888858358347027150309183618739122183602176)
theorem isD_iff {l : List Int} : isD l = true ↔ l = dg (vl l) ∧ 0 ≤ vl l ∧ vl l < 1532495540865888858358347027150309183618739122183602176 := by
  simp only [isD, Bool.and_eq_true, isDg_iff, decide_eq_true_eq, and_assoc]
theorem isD_dg {n : Int} (h : 0 ≤ n ∧ n < 1532495540865888858358347027150309183618739122183602176) : isD (dg n) = true := by
  rw [isD_iff, vl_dg n h.1]; exact ⟨rfl, h⟩
theorem dg_len {n : Int} (h : 0 ≤ n ∧ n < 1532495540865888858358347027150309183618739122183602176) : (dg n).length ≤ 12 := by
  rcases Nat.lt_or_ge (dg n).length 13 with h1 | h1
  · omega
  · have hz : n ≠ 0 := fun e => by subst e; simp [dg_zero] at h1
    have h2 := dg_ge n h.1 hz
    have h3 := pow_mono (show 12 ≤ (dg n).length - 1 by omega)
    have h4 : (32768 : Int) ^ 12 = 1532495540865888858358347027150309183618739122183602176 := by decide
    omega
theorem isD_len {l : List Int} (h : isD l = true) : l.length ≤ 12 := by
  rw [isD_iff] at h
  rw [h.1]; exact dg_len h.2
theorem isD_low {l : List Int} (h : isD l = true) : low15 l := by
  rw [isD_iff] at h
  rw [h.1]; exact low_dg _ h.2.1
theorem isD_isDg {l : List Int} (h : isD l = true) : isDg l = true := by
  rw [isD_iff] at h; rw [isDg_iff]; exact ⟨h.1, h.2.1⟩
theorem trimL_app0 (l : List Int) : trimL (l ++ [0]) = trimL l := by
  induction l with
  | nil => rfl
  | cons a r ih => simp only [List.cons_append, trimL, ih]
theorem trimL_last (l : List Int) (x : Int) (h : x ≠ 0) : trimL (l ++ [x]) = l ++ [x] := by
  induction l with
  | nil => simp [trimL, h]
  | cons a r ih =>
    simp only [List.cons_append, trimL, ih]
    split
    · rename_i e; exact absurd e (by simp)
    · rfl
theorem low_trim {l : List Int} (h : low15 l) : low15 (trimL l) := by rw [trim_dg h]; exact low_dg _ (vl_nn h)
theorem vl_trim {l : List Int} (h : low15 l) : vl (trimL l) = vl l := by rw [trim_dg h]; exact vl_dg _ (vl_nn h)
end Go.Proofs.YtgpljldfbhkdlaaGreat

/- The reference's natural numbers: of, trim, number, order. -/
namespace Go.Proofs.YtgpljldfbhkdlaaGreat
open Go.RowKit

abbrev lN (l : List Int) : AVal := .ro (.int .i64) l
def l1 (l : List Int) : AOut := .ret (.ro (.int .i64) l)
theorem w64 (n : Int) (h : -9223372036854775808 ≤ n ∧ n ≤ 9223372036854775807) : IntKind.i64.wrap n = n := by rw [IntKind.wrap_i64]; omega
theorem mlx : maxLen = 9223372036854775807 := rfl
theorem roomx : room = 140737488355328 := rfl
theorem snoc_ind {P : List Int → Prop} (h0 : P []) (h1 : ∀ l y, P l → P (l ++ [y])) (l : List Int) : P l := by
  rw [← List.reverse_reverse l]
  induction l.reverse with
  | nil => exact h0
  | cons a r ih => rw [List.reverse_cons]; exact h1 _ _ ih
theorem dg_drop : ∀ (i : Nat) (n : Int), 0 ≤ n → (dg n).drop i = dg (n / 32768 ^ i)
  | 0, n, _ => by simp
  | i + 1, n, h => by
    rcases Int.lt_or_le 0 n with hp | hp
    · rw [dg_pos hp, List.drop_succ_cons, dg_drop i _ (by omega), Int.pow_succ, Int.mul_comm (32768 ^ i) 32768, Int.ediv_ediv_of_nonneg (by omega)]
    · have : n = 0 := by omega
      subst this
      simp [dg_zero]

def ofS : Fsp := fun _ args k => match args with
  | [.int .i64 n] => bif decide (0 ≤ n) && decide (n ≤ 9223372036854775807) then k (l1 (dg n)) else none
  | _ => none
theorem of_text (N n0 : Nat) (α : Type) (n : Int) (k : AOut → Option α) : evFn real tab ((twT (fun _ => none) (fun _ => none)).env real tab N n0) N Tryz.f139 α [iN n] k =
    afterL
      (iterL N
        (fun (x : List Int × Int × Unit) =>
          bif decide (x.2.1 > 0) then
            if (x.1.length + [x.2.1.tmod 32768].length) * 8 ≤ room then some (LRes.cont (x.1 ++ [x.2.1.tmod 32768], IntKind.i64.wrap (x.2.1.tdiv 32768), ()))
            else none
          else some (LRes.brk 0 (x.1, x.2.1, ())))
        ([], n, ()))
      fun id y => if id = 0 then k (l1 y.1) else none := by kernel_rfl
theorem of_plain {α : Type} (n : Int) (h : 0 ≤ n ∧ n ≤ 9223372036854775807) (k : AOut → Option α) : evFn real tab ((twT (fun _ => none) (fun _ => none)).env real tab 20 0) 20 Tryz.f139 α [iN n] k = k (l1 (dg n)) := by
  rw [of_text]
  generalize hf : (fun x : List Int × Int × Unit => (_ : Option (LRes (List Int × Int × Unit) α))) = f
  have hlen := dg_len (n := n) ⟨h.1, by omega⟩
  have hz : n / 32768 ^ (dg n).length = 0 := by
    have := dg_drop (dg n).length n h.1
    rw [List.drop_length] at this
    exact (dg_nil (Int.ediv_nonneg h.1 (Int.le_of_lt (pow15 _)))).1 this.symm
  have e : iterL 20 f ([], n, ()) = some (.brk 0 (dg n, 0, ())) := by
    refine (congrArg (iterL 20 f) (by simp)).trans (iterL_count (f := f) (fun i : Nat => ((dg n).take i, n / 32768 ^ i, ())) (fun y e => by cases e) (dg n).length (fun i hi => ?_) ?_ 0 (Nat.zero_le _) 20 (by omega))
    · rw [← hf]
      have hm : 0 ≤ n / 32768 ^ i := Int.ediv_nonneg h.1 (Int.le_of_lt (pow15 i))
      have hd := dg_drop i n h.1
      have hne : n / 32768 ^ i ≠ 0 := fun e => by
        rw [e, dg_zero] at hd
        have := congrArg List.length hd
        simp at this; omega
      have hle : n / 32768 ^ i ≤ n := Int.ediv_le_self _ h.1
      rw [dg_pos (n := n / 32768 ^ i) (by omega)] at hd
      have hget : (dg n).getD i 0 = n / 32768 ^ i % 32768 := by
        have := congrArg (fun l => List.getD l 0 0) hd
        simpa [List.getD_eq_getElem?_getD] using this
      have ht : (dg n).take (i + 1) = (dg n).take i ++ [n / 32768 ^ i % 32768] := by
        rw [List.take_add_one, List.getElem?_eq_getElem hi, ← hget, List.getD_eq_getElem?_getD, List.getElem?_eq_getElem hi]
        rfl
      have e1 : (n / 32768 ^ i).tmod 32768 = n / 32768 ^ i % 32768 := Int.tmod_eq_emod_of_nonneg hm
      have e2 : (n / 32768 ^ i).tdiv 32768 = n / 32768 ^ i / 32768 := Int.tdiv_eq_ediv_of_nonneg hm
      simp only [decide_eq_true (show n / 32768 ^ i > 0 by omega), cond_true, e1, e2]
      rw [if_pos (by rw [roomx]; simp; omega), w64 _ (by omega), ← ht, Int.ediv_ediv_of_nonneg (Int.le_of_lt (pow15 i)), ← Int.pow_succ]
    · rw [← hf]
      simp only [hz, List.take_length]
      rfl
  rw [e]
  rfl
theorem ofS_ok : FspOk Tryz.prog 139 ofS := tower_S fs_nil sp_nil ⟨Tryz.func139, fun _ _ => by kernel_rfl⟩ (by intro α args k; unfold ofS; split <;> simp only [cond_bind, Option.bind_some, Option.bind_none]) fun args out hs h => by
  unfold ofS at h
  split at h
  · rename_i n
    cases hb : decide (0 ≤ n) && decide (n ≤ 9223372036854775807)
    · rw [hb] at h; cases h
    · rw [hb] at h
      simp only [Bool.and_eq_true, decide_eq_true_eq] at hb
      exact ⟨20, 0, (of_plain n hb some).trans h⟩
  · cases h

def trimS : Fsp := fun _ args k => match args with
  | [.ro (.int .i64) l] => k (l1 (trimL l))
  | _ => none
theorem trim_text (N n0 : Nat) (α : Type) (a : List Int) (k : AOut → Option α) : evFn real tab ((twT (fun _ => none) (fun _ => none)).env real tab N n0) N Tryz.f178 α [lN a] k =
    afterL
      (iterL N
        (fun (x : List Int × Unit) =>
          bif decide ((x.1.length : Int) > 0) then
            if 0 ≤ IntKind.i64.wrap ((x.1.length : Int) - 1) ∧ IntKind.i64.wrap ((x.1.length : Int) - 1) < (x.1.length : Int) then
              bif x.1.getD (IntKind.i64.wrap ((x.1.length : Int) - 1)).toNat (Int.ofNat 0) == 0 then
                if 0 ≤ IntKind.i64.wrap ((x.1.length : Int) - 1) ∧ IntKind.i64.wrap ((x.1.length : Int) - 1) ≤ (x.1.length : Int) then
                  some (LRes.cont (List.take (IntKind.i64.wrap ((x.1.length : Int) - 1)).toNat x.1, ()))
                else none
              else some (LRes.brk 0 (x.1, ()))
            else none
          else some (LRes.brk 0 (x.1, ())))
        (a, ()))
      fun id y => if id = 0 then k (l1 y.1) else none := by kernel_rfl
theorem trim_plain {α : Type} (a : List Int) (hl : a.length ≤ maxLen) (k : AOut → Option α) : evFn real tab ((twT (fun _ => none) (fun _ => none)).env real tab (a.length + 1) 0) (a.length + 1) Tryz.f178 α [lN a] k = k (l1 (trimL a)) := by
  rw [trim_text]
  generalize hf : (fun x : List Int × Unit => (_ : Option (LRes (List Int × Unit) α))) = f
  have key : ∀ l : List Int, l.length ≤ maxLen → ∀ N, l.length < N → iterL N f (l, ()) = some (.brk 0 (trimL l, ())) := by
    refine snoc_ind (fun _ N hN => ?_) (fun l y ih hlen N hN => ?_)
    · obtain ⟨M, rfl⟩ : ∃ M, N = M + 1 := ⟨N - 1, by simp at hN; omega⟩
      have : f ([], ()) = some (.brk 0 ([], ())) := by rw [← hf]; rfl
      simp only [iterL, this]
      rfl
    · obtain ⟨M, rfl⟩ : ∃ M, N = M + 1 := ⟨N - 1, by omega⟩
      rw [List.length_append, List.length_singleton] at hlen hN
      rw [mlx] at hlen ih
      have hfl : f (l ++ [y], ()) = bif y == 0 then some (.cont (l, ())) else some (.brk 0 (l ++ [y], ())) := by
        rw [← hf]
        have e1 : (((l ++ [y]).length : Nat) : Int) - 1 = (l.length : Int) := by simp
        simp only [e1]
        have hL : (((l ++ [y]).length : Nat) : Int) = (l.length : Int) + 1 := by simp
        rw [w64 (l.length : Int) (by omega), decide_eq_true (show (((l ++ [y]).length : Nat) : Int) > 0 by rw [hL]; omega), cond_true, if_pos ⟨by omega, by rw [hL]; omega⟩, if_pos ⟨by omega, by rw [hL]; omega⟩]
        have e2 : (l ++ [y]).getD ((l.length : Int)).toNat (Int.ofNat 0) = y := by simp [List.getD_eq_getElem?_getD]
        have e3 : List.take ((l.length : Int)).toNat (l ++ [y]) = l := by simp
        rw [e2, e3]
      simp only [iterL, hfl]
      by_cases hy : y = 0
      · subst hy
        rw [beq_self_eq_true, cond_true, trimL_app0]
        exact ih (by omega) M (by omega)
      · rw [beq_eq_false_iff_ne.2 hy, cond_false, trimL_last _ _ hy]
  rw [key a hl _ (by omega)]
  rfl
theorem trimS_ok : FspOk Tryz.prog 178 trimS := tower_S fs_nil sp_nil ⟨Tryz.func178, fun _ _ => by kernel_rfl⟩ (by intro α args k; unfold trimS; split <;> rfl) fun args out hs h => by
  unfold trimS at h
  split at h
  · rename_i l
    exact ⟨_, 0, (trim_plain l (hs _ (by simp)).len some).trans h⟩
  · cases h

theorem isD_small {l : List Int} (h : isD l = true) : (l.length ≤ 4 ↔ vl l < 1152921504606846976) := by
  have h4 : (32768 : Int) ^ 4 = 1152921504606846976 := by decide
  have hlow := isD_low h
  constructor
  · intro hl
    have := vl_lt hlow
    have := pow_mono hl
    omega
  · intro hv
    rcases Nat.lt_or_ge l.length 5 with h5 | h5
    · omega
    · rw [isD_iff] at h
      have hz : vl l ≠ 0 := fun e => by have := h.1; rw [e, dg_zero] at this; rw [this] at h5; simp at h5
      have h2 := dg_ge (vl l) h.2.1 hz
      rw [← h.1] at h2
      have := pow_mono (show 4 ≤ l.length - 1 by omega)
      omega
def smB (n : Int) : Bool := decide (n < 1152921504606846976)
def numberS : Fsp := fun _ args k => match args with
  | [.ro (.int .i64) l] => bif isD l then k (.ret (.tup [iN (bif smB (vl l) then vl l else 0), bN (smB (vl l))])) else none
  | _ => none
theorem number_text (N n0 : Nat) (α : Type) (a : List Int) (k : AOut → Option α) : evFn real tab ((twT (fun _ => none) (fun _ => none)).env real tab N n0) N Tryz.f180 α [lN a] k =
    bif decide ((a.length : Int) > 4) then k (.ret (.tup [iN 0, bN false]))
    else
      afterL
        (iterL N
          (fun (x : Int × Int × Unit) =>
            bif decide (x.2.1 ≥ 0) then
              if 0 ≤ x.2.1 ∧ x.2.1 < (a.length : Int) then
                some (LRes.cont (IntKind.i64.wrap (IntKind.i64.wrap (32768 * x.1) + a.getD x.2.1.toNat (Int.ofNat 0)), IntKind.i64.wrap (x.2.1 - 1), ()))
              else none
            else some (LRes.brk 0 (x.1, x.2.1, ())))
          (0, IntKind.i64.wrap ((a.length : Int) - 1), ()))
        fun id y => if id = 0 then k (.ret (.tup [iN y.1, bN true])) else none := by kernel_rfl
theorem number_plain {α : Type} (a : List Int) (h : isD a = true) (k : AOut → Option α) : evFn real tab ((twT (fun _ => none) (fun _ => none)).env real tab 20 0) 20 Tryz.f180 α [lN a] k = k (.ret (.tup [iN (bif smB (vl a) then vl a else 0), bN (smB (vl a))])) := by
  rw [number_text]
  have hs := isD_small h
  have hlow := isD_low h
  by_cases hl : a.length ≤ 4
  · have hv := hs.1 hl
    have e0 : smB (vl a) = true := decide_eq_true hv
    rw [decide_eq_false (show ¬ (a.length : Int) > 4 by omega), cond_false, e0, cond_true]
    generalize hf : (fun x : Int × Int × Unit => (_ : Option (LRes (Int × Int × Unit) α))) = f
    have e : iterL 20 f (0, IntKind.i64.wrap ((a.length : Int) - 1), ()) = some (.brk 0 (vl a, -1, ())) := by
      refine (congrArg (iterL 20 f) ?_).trans (iterL_count (f := f) (fun j : Nat => (vl (a.drop (a.length - j)), (a.length : Int) - 1 - j, ())) (fun y e => by cases e) a.length (fun j hj => ?_) ?_ 0 (Nat.zero_le _) 20 (by omega))
      · rw [w64 _ (by omega)]; simp [vl]
      · rw [← hf]
        have hi : ((a.length : Int) - 1 - j).toNat = a.length - 1 - j := by omega
        have hlt : a.length - 1 - j < a.length := by omega
        have hd : a.drop (a.length - (j + 1)) = a.getD (a.length - 1 - j) 0 :: a.drop (a.length - j) := by
          rw [show a.length - (j + 1) = a.length - 1 - j by omega, List.drop_eq_getElem_cons hlt, List.getD_eq_getElem?_getD, List.getElem?_eq_getElem hlt, show a.length - 1 - j + 1 = a.length - j by omega]
          rfl
        have hb := low_get hlow (a.length - 1 - j)
        have h0 := vl_nn (low_drop hlow (a.length - j))
        have h1 := vl_lt (low_drop hlow (a.length - j))
        have h2 := pow_mono (show (a.drop (a.length - j)).length ≤ 3 by simp; omega)
        have h3 : (32768 : Int) ^ 3 = 35184372088832 := by decide
        simp only [decide_eq_true (show (a.length : Int) - 1 - j ≥ 0 by omega), cond_true, hi, hd, vl, show Int.ofNat 0 = 0 from rfl]
        rw [if_pos ⟨by omega, by omega⟩, w64 (32768 * _) (by omega), w64 _ (by omega), w64 _ (by omega)]
        congr 3
        · omega
        · congr 1; omega
      · rw [← hf]
        simp only [decide_eq_false (show ¬ (a.length : Int) - 1 - a.length ≥ 0 by omega), cond_false, Nat.sub_self, List.drop_zero]
        rw [show (a.length : Int) - 1 - a.length = -1 by omega]
    rw [e]
    rfl
  · have hv : ¬ vl a < 1152921504606846976 := fun c => hl (hs.2 c)
    have e0 : smB (vl a) = false := decide_eq_false hv
    rw [decide_eq_true (show (a.length : Int) > 4 by omega), cond_true, e0]
    rfl
theorem numberS_ok : FspOk Tryz.prog 180 numberS := tower_S fs_nil sp_nil ⟨Tryz.func180, fun _ _ => by kernel_rfl⟩ (by intro α args k; unfold numberS; split <;> simp only [cond_bind, Option.bind_some, Option.bind_none]) fun args out hs h => by
  unfold numberS at h
  split at h
  · rename_i l
    cases hb : isD l
    · rw [hb] at h; cases h
    · rw [hb] at h
      exact ⟨20, 0, (number_plain l hb some).trans h⟩
  · cases h
end Go.Proofs.YtgpljldfbhkdlaaGreat

/- The reference's natural numbers: order, plus, minus, times. -/
namespace Go.Proofs.YtgpljldfbhkdlaaGreat
open Go.RowKit

def orderS : Fsp := fun _ args k => match args with
  | [.ro (.int .i64) a, .ro (.int .i64) b] => bif isD a && isD b then k (i1 (cmp3 (vl a) (vl b))) else none
  | _ => none
theorem order_text (N n0 : Nat) (α : Type) (a b : List Int) (k : AOut → Option α) : evFn real tab ((twT (fun _ => none) (fun _ => none)).env real tab N n0) N Tryz.f181 α [lN a, lN b] k =
    bif decide ((a.length : Int) < (b.length : Int)) then k (i1 (-1))
    else
      bif decide ((a.length : Int) > (b.length : Int)) then k (i1 1)
      else
        afterL
          (iterL N
            (fun (x : Int × Unit) =>
              bif decide (x.1 ≥ 0) then
                if 0 ≤ x.1 ∧ x.1 < (a.length : Int) then
                  if 0 ≤ x.1 ∧ x.1 < (b.length : Int) then
                    bif decide (a.getD x.1.toNat (Int.ofNat 0) < b.getD x.1.toNat (Int.ofNat 0)) then finL (k (i1 (-1)))
                    else
                      if 0 ≤ x.1 ∧ x.1 < (a.length : Int) then
                        if 0 ≤ x.1 ∧ x.1 < (b.length : Int) then
                          bif decide (a.getD x.1.toNat (Int.ofNat 0) > b.getD x.1.toNat (Int.ofNat 0)) then finL (k (i1 1))
                          else some (LRes.cont (IntKind.i64.wrap (x.1 - 1), ()))
                        else none
                      else none
                  else none
                else none
              else some (LRes.brk 0 (x.1, ())))
            (IntKind.i64.wrap ((a.length : Int) - 1), ()))
          fun id _ => if id = 0 then k (i1 0) else none := by kernel_rfl
theorem drop_eq {l m : List Int} (hl : m.length = l.length) {i : Nat} (h : ∀ j, i ≤ j → j < l.length → l.getD j 0 = m.getD j 0) : l.drop i = m.drop i := by
  apply List.ext_getElem
  · simp [hl]
  · intro j h1 h2
    simp only [List.length_drop] at h1 h2
    have := h (i + j) (by omega) (by omega)
    rw [List.getD_eq_getElem?_getD, List.getD_eq_getElem?_getD, List.getElem?_eq_getElem (by omega), List.getElem?_eq_getElem (by omega)] at this
    simpa using this
theorem order_plain {α : Type} (a b : List Int) (ha : isD a = true) (hb : isD b = true) (k : AOut → Option α) : evFn real tab ((twT (fun _ => none) (fun _ => none)).env real tab (a.length + 1) 0) (a.length + 1) Tryz.f181 α [lN a, lN b] k = k (i1 (cmp3 (vl a) (vl b))) := by
  rw [order_text]
  have la := isD_len ha
  have lb := isD_len hb
  rw [isD_iff] at ha hb
  obtain ⟨ea, a0, a1⟩ := ha
  obtain ⟨eb, b0, b1⟩ := hb
  generalize vl a = A at *
  generalize vl b = B at *
  subst ea; subst eb
  unfold cmp3
  by_cases h1 : (dg A).length < (dg B).length
  · rw [decide_eq_true (by omega), cond_true, if_pos (dg_len_lt a0 b0 h1)]
  · rw [decide_eq_false (by omega), cond_false]
    by_cases h2 : (dg B).length < (dg A).length
    · have := dg_len_lt b0 a0 h2
      rw [decide_eq_true (by omega), cond_true, if_neg (by omega), if_pos this]
    · have hl : (dg B).length = (dg A).length := by omega
      rw [decide_eq_false (by omega), cond_false]
      generalize hf : (fun x : Int × Unit => (_ : Option (LRes (Int × Unit) α))) = f
      have e := iterL_find (f := f) (fun j : Nat => (((dg A).length : Int) - 1 - j, ())) (fun j => (dg A).getD ((dg A).length - 1 - j) 0 != (dg B).getD ((dg A).length - 1 - j) 0)
        (R := fun j => if (dg A).getD ((dg A).length - 1 - j) 0 < (dg B).getD ((dg A).length - 1 - j) 0 then finL (k (i1 (-1))) else finL (k (i1 1))) (E := some (.brk 0 (-1, ())))
        (fun i y => by split <;> exact fin_not _ y) (brk_not _ _) (dg A).length (fun j hj => ?_) ?_
      · have e0 : (((dg A).length : Int) - 1 - ((0 : Nat) : Int), ()) = (IntKind.i64.wrap (((dg A).length : Int) - 1), ()) := by rw [w64 _ (by omega)]; simp
        rw [e0] at e
        rw [e]
        cases hq : (List.range (dg A).length).find? fun j => (dg A).getD ((dg A).length - 1 - j) 0 != (dg B).getD ((dg A).length - 1 - j) 0 with
        | none =>
          rw [List.find?_eq_none] at hq
          have heq : (dg A).drop 0 = (dg B).drop 0 := drop_eq hl fun j _ hj => by
            have := hq ((dg A).length - 1 - j) (List.mem_range.2 (by omega))
            rw [show (dg A).length - 1 - ((dg A).length - 1 - j) = j by omega] at this
            simpa using this
          have : A = B := dg_eq a0 b0 heq
          rw [if_neg (by omega), if_neg (by omega)]
          rfl
        | some j =>
          have hj := List.mem_range.1 (List.mem_of_find?_eq_some hq)
          have hne := List.find?_some hq
          simp only [bne_iff_ne, ne_eq] at hne
          have hdrop : (dg A).drop ((dg A).length - 1 - j + 1) = (dg B).drop ((dg A).length - 1 - j + 1) := drop_eq hl fun i hi hi2 => by
            have hb := (List.find?_range_eq_some.1 hq).2.2 ((dg A).length - 1 - i) (by omega)
            rw [show (dg A).length - 1 - ((dg A).length - 1 - i) = i by omega] at hb
            simpa using hb
          dsimp only
          by_cases hlt : (dg A).getD ((dg A).length - 1 - j) 0 < (dg B).getD ((dg A).length - 1 - j) 0
          · rw [if_pos hlt, if_pos (dg_top a0 b0 (by omega) (by omega) hdrop hlt)]
            cases k (i1 (-1)) <;> rfl
          · have := dg_top b0 a0 (i := (dg A).length - 1 - j) (by omega) (by omega) hdrop.symm (by omega)
            rw [if_neg hlt, if_neg (by omega), if_pos this]
            cases k (i1 1) <;> rfl
      · rw [← hf]
        have hi : (((dg A).length : Int) - 1 - j).toNat = (dg A).length - 1 - j := by omega
        simp only [decide_eq_true (show ((dg A).length : Int) - 1 - j ≥ 0 by omega), cond_true, hi, show Int.ofNat 0 = 0 from rfl]
        rw [if_pos ⟨by omega, by omega⟩, if_pos ⟨by omega, by omega⟩, if_pos ⟨by omega, by omega⟩, if_pos ⟨by omega, by omega⟩, w64 _ (by omega)]
        generalize (dg A).getD ((dg A).length - 1 - j) 0 = u
        generalize (dg B).getD ((dg A).length - 1 - j) 0 = v
        by_cases c1 : u < v
        · rw [decide_eq_true c1, if_pos c1, show (u != v) = true by simp; omega]; rfl
        · rw [decide_eq_false c1, if_neg c1]
          by_cases c2 : u > v
          · rw [decide_eq_true c2, show (u != v) = true by simp; omega]; rfl
          · rw [decide_eq_false c2, show (u != v) = false by simp; omega, cond_false, cond_false, cond_false, show ((dg A).length : Int) - 1 - j - 1 = ((dg A).length : Int) - 1 - ((j + 1 : Nat) : Int) by omega]
      · rw [← hf]
        simp only [decide_eq_false (show ¬ ((dg A).length : Int) - 1 - (dg A).length ≥ 0 by omega), cond_false]
        rw [show ((dg A).length : Int) - 1 - (dg A).length = -1 by omega]
theorem orderS_ok : FspOk Tryz.prog 181 orderS := tower_S fs_nil sp_nil ⟨Tryz.func181, fun _ _ => by kernel_rfl⟩ (by intro α args k; unfold orderS; split <;> simp only [cond_bind, Option.bind_some, Option.bind_none]) fun args out hs h => by
  unfold orderS at h
  split at h
  · rename_i a b
    cases hb : isD a && isD b
    · rw [hb] at h; cases h
    · rw [hb] at h
      rw [Bool.and_eq_true] at hb
      exact ⟨_, 0, (order_plain a b hb.1 hb.2 some).trans h⟩
  · cases h

/-! Sums. -/
def plusDS : Fsp := fun _ args k => match args with
  | [.ro (.int .i64) a, .ro (.int .i64) b] => bif isD a && isD b then k (l1 (dg (vl a + vl b))) else none
  | _ => none
section
variable {σ α : Type}
def plDE (out : List Int) (c i : Int) : Option (LRes (List Int × Int × Int × Unit) α) :=
  if (out.length + [c.tmod 32768].length) * 8 ≤ room then some (LRes.cont (out ++ [c.tmod 32768], IntKind.i64.wrap (c.tdiv 32768), IntKind.i64.wrap (i + 1), ())) else none
def plB2 (b : List Int) (out : List Int) (c i : Int) : Option (LRes (List Int × Int × Int × Unit) α) :=
  bif decide (i < (b.length : Int)) then
    if 0 ≤ i ∧ i < (b.length : Int) then plDE out (IntKind.i64.wrap (c + b.getD i.toNat (Int.ofNat 0))) i else none
  else plDE out c i
def plB1 (a b : List Int) (out : List Int) (c i : Int) : Option (LRes (List Int × Int × Int × Unit) α) :=
  bif decide (i < (a.length : Int)) then
    if 0 ≤ i ∧ i < (a.length : Int) then plB2 b out (IntKind.i64.wrap (c + a.getD i.toNat (Int.ofNat 0))) i else none
  else plB2 b out c i
end
theorem plusD_text (N n0 : Nat) (α : Type) (a b : List Int) (k : AOut → Option α) : evFn real tab ((twT (fun _ => none) (fun _ => none)).env real tab N n0) N Tryz.f182 α [lN a, lN b] k =
    afterL
      (iterL N
        (fun (x : List Int × Int × Int × Unit) =>
          bif decide (x.2.2.1 < (a.length : Int)) then plB1 a b x.1 x.2.1 x.2.2.1
          else
            bif decide (x.2.2.1 < (b.length : Int)) then plB1 a b x.1 x.2.1 x.2.2.1
            else
              bif decide (x.2.1 > 0) then plB1 a b x.1 x.2.1 x.2.2.1
              else some (LRes.brk 0 (x.1, x.2.1, x.2.2.1, ())))
        ([], 0, 0, ()))
      fun id y => if id = 0 then k (l1 y.1) else none := by kernel_rfl
theorem plB_step {α : Type} {a b : List Int} (ha : low15 a) (hb : low15 b) {i : Nat} (hi : i ≤ 20) : plB1 (α := α) a b (plSt a b i).2 (plSt a b i).1 i = some (.cont ((plSt a b (i + 1)).2, (plSt a b (i + 1)).1, ((i + 1 : Nat) : Int), ())) := by
  have h := pl_is ha hb i
  have hl := h.len
  have hc := h.c
  have h2 := low_get ha i
  have h3 := low_get hb i
  have fin : ∀ c : Int, c = plC a b (plSt a b i) i → plDE (α := α) (plSt a b i).2 c i = some (.cont ((plSt a b (i + 1)).2, (plSt a b (i + 1)).1, ((i + 1 : Nat) : Int), ())) := fun c e => by
    have hcc : 0 ≤ c ∧ c < 65536 := by rw [e]; unfold plC; omega
    unfold plDE
    rw [Int.tmod_eq_emod_of_nonneg hcc.1, Int.tdiv_eq_ediv_of_nonneg hcc.1, w64 (c / 32768) (by omega), w64 ((i : Int) + 1) (by omega), if_pos (by rw [roomx, hl]; simp; omega), e]
    rfl
  have second : ∀ c : Int, c = (plSt a b i).1 + a.getD i 0 → plB2 (α := α) b (plSt a b i).2 c i = some (.cont ((plSt a b (i + 1)).2, (plSt a b (i + 1)).1, ((i + 1 : Nat) : Int), ())) := fun c e => by
    unfold plB2
    by_cases hlt : i < b.length
    · rw [decide_eq_true (by omega), cond_true, if_pos ⟨by omega, by omega⟩]
      refine fin _ ?_
      show IntKind.i64.wrap (c + b.getD i 0) = _
      rw [w64 _ (by omega), e]; rfl
    · rw [decide_eq_false (by omega), cond_false]
      refine fin _ ?_
      have : b.getD i 0 = 0 := by rw [List.getD_eq_getElem?_getD, List.getElem?_eq_none (by omega)]; rfl
      rw [e]; unfold plC; omega
  unfold plB1
  by_cases hlt : i < a.length
  · rw [decide_eq_true (by omega), cond_true, if_pos ⟨by omega, by omega⟩]
    refine second _ ?_
    show IntKind.i64.wrap ((plSt a b i).1 + a.getD i 0) = _
    rw [w64 _ (by omega)]
  · rw [decide_eq_false (by omega), cond_false]
    refine second _ ?_
    have : a.getD i 0 = 0 := by rw [List.getD_eq_getElem?_getD, List.getElem?_eq_none (by omega)]; rfl
    omega
/-- The greatest part of a number's parts is not 0. -/
theorem dg_last {n : Int} (h : 0 ≤ n) {i : Nat} (hi : i + 1 = (dg n).length) : 0 < (dg n).getD i 0 := by
  have hz : n ≠ 0 := fun e => by subst e; simp [dg_zero] at hi
  have h1 := dg_ge n h hz
  have h2 := vl_split (dg n) i (by omega)
  have h3 := vl_lt (low_take (low_dg n h) i)
  rw [vl_dg n h] at h2
  have h4 : (dg n).drop i = [(dg n).getD i 0] := by
    rw [List.drop_eq_getElem_cons (by omega), List.getD_eq_getElem?_getD, List.getElem?_eq_getElem (by omega), List.drop_of_length_le (by omega)]
    rfl
  rw [h4] at h2
  simp only [vl] at h2
  have h5 := (low_get (low_dg n h) i).1
  rcases Int.lt_or_le 0 ((dg n).getD i 0) with q | q
  · exact q
  · have : (dg n).getD i 0 = 0 := by omega
    rw [this] at h2
    rw [← hi, Nat.add_sub_cancel] at h1
    rw [List.length_take, Nat.min_eq_left (by omega)] at h3
    omega
theorem plusD_plain {α : Type} (a b : List Int) (ha : isD a = true) (hb : isD b = true) (k : AOut → Option α) : evFn real tab ((twT (fun _ => none) (fun _ => none)).env real tab 30 0) 30 Tryz.f182 α [lN a, lN b] k = k (l1 (dg (vl a + vl b))) := by
  rw [plusD_text]
  have la := isD_len ha
  have lb := isD_len hb
  have wa := isD_low ha
  have wb := isD_low hb
  rw [isD_iff] at ha hb
  generalize hf : (fun x : List Int × Int × Int × Unit => (_ : Option (LRes (List Int × Int × Int × Unit) α))) = f
  -- how many parts there are
  let n0 := max a.length b.length
  have hn0 : a.length ≤ n0 ∧ b.length ≤ n0 ∧ n0 ≤ 12 := ⟨Nat.le_max_left .., Nat.le_max_right .., by simp only [n0]; omega⟩
  have P := pl_is wa wb n0
  have hv := P.vl
  rw [List.take_of_length_le hn0.1, List.take_of_length_le hn0.2.1] at hv
  have hgo : ∀ i, i < n0 → f ((plSt a b i).2, (plSt a b i).1, (i : Int), ()) = some (.cont ((plSt a b (i + 1)).2, (plSt a b (i + 1)).1, ((i + 1 : Nat) : Int), ())) := fun i hi => by
    rw [← hf]
    dsimp only
    rw [plB_step wa wb (by omega)]
    have : i < a.length ∨ i < b.length := by simp only [n0] at hi; omega
    rcases this with h | h
    · rw [decide_eq_true (by omega), cond_true]
    · rw [decide_eq_true (show (i : Int) < (b.length : Int) by omega), cond_true]
      cases decide ((i : Int) < (a.length : Int)) <;> rfl
  have hend : ∀ n : Nat, n0 ≤ n → n ≤ 14 → (plSt a b n).1 = 0 → f ((plSt a b n).2, (plSt a b n).1, (n : Int), ()) = some (.brk 0 ((plSt a b n).2, (plSt a b n).1, (n : Int), ())) := fun n h1 h2 h3 => by
    rw [← hf]
    dsimp only
    rw [decide_eq_false (by omega), decide_eq_false (show ¬ (n : Int) < (b.length : Int) by omega), h3]
    rfl
  have hc := P.c
  by_cases hz : (plSt a b n0).1 = 0
  · have e : iterL 30 f ([], 0, 0, ()) = some (.brk 0 ((plSt a b n0).2, (plSt a b n0).1, (n0 : Int), ())) :=
      iterL_count (f := f) (fun i : Nat => ((plSt a b i).2, (plSt a b i).1, (i : Int), ())) (fun y e => by cases e) n0 hgo (hend n0 (Nat.le_refl _) (by omega) hz) 0 (Nat.zero_le _) 30 (by omega)
    have hres : (plSt a b n0).2 = dg (vl a + vl b) := by
      rw [hz, Int.zero_mul, Int.add_zero] at hv
      rw [← hv]
      rcases Nat.eq_zero_or_pos n0 with h0 | h0
      · have := P.len
        rw [h0] at this ⊢
        have hnil := List.eq_nil_of_length_eq_zero this
        rw [hnil]; rfl
      · obtain ⟨m, hm⟩ : ∃ m, n0 = m + 1 := ⟨n0 - 1, by omega⟩
        have Q := pl_is wa wb m
        rw [hm] at hz ⊢
        have hl := Q.len
        have hcc := Q.c
        have ga := low_get wa m
        have gb := low_get wb m
        have htop : 0 < a.getD m 0 ∨ 0 < b.getD m 0 := by
          have : m + 1 = a.length ∨ m + 1 = b.length := by simp only [n0] at hm; omega
          rcases this with h | h
          · left; have := dg_last ha.2.1 (i := m) (by rw [← ha.1]; exact h); rw [← ha.1] at this; exact this
          · right; have := dg_last hb.2.1 (i := m) (by rw [← hb.1]; exact h); rw [← hb.1] at this; exact this
        have hq : plC a b (plSt a b m) m / 32768 = 0 := hz
        have hpc : plC a b (plSt a b m) m = (plSt a b m).1 + a.getD m 0 + b.getD m 0 := rfl
        have hs : (plSt a b (m + 1)).2 = (plSt a b m).2 ++ [plC a b (plSt a b m) m % 32768] := rfl
        rw [hs, vl_append]
        exact (dg_snoc Q.low (by omega)).symm
    rw [e, hres]
    rfl
  · have h1 : (plSt a b n0).1 = 1 := by omega
    have ga : a.getD n0 0 = 0 := by rw [List.getD_eq_getElem?_getD, List.getElem?_eq_none (by omega)]; rfl
    have gb : b.getD n0 0 = 0 := by rw [List.getD_eq_getElem?_getD, List.getElem?_eq_none (by omega)]; rfl
    have hpc : plC a b (plSt a b n0) n0 = 1 := by unfold plC; omega
    have hs : plSt a b (n0 + 1) = (0, (plSt a b n0).2 ++ [1]) := by
      show (plC a b (plSt a b n0) n0 / 32768, (plSt a b n0).2 ++ [plC a b (plSt a b n0) n0 % 32768]) = _
      rw [hpc]; rfl
    have e : iterL 30 f ([], 0, 0, ()) = some (.brk 0 ((plSt a b (n0 + 1)).2, (plSt a b (n0 + 1)).1, ((n0 + 1 : Nat) : Int), ())) :=
      iterL_count (f := f) (fun i : Nat => ((plSt a b i).2, (plSt a b i).1, (i : Int), ())) (fun y e => by cases e) (n0 + 1) (fun i hi => by
        rcases Nat.lt_or_ge i n0 with h | h
        · exact hgo i h
        · have : i = n0 := by omega
          subst this
          rw [← hf]
          dsimp only
          rw [plB_step wa wb (by omega), decide_eq_false (by omega), decide_eq_false (show ¬ (n0 : Int) < (b.length : Int) by omega), h1]
          rfl) (hend (n0 + 1) (by omega) (by omega) (by rw [hs])) 0 (Nat.zero_le _) 30 (by omega)
    have hres : (plSt a b (n0 + 1)).2 = dg (vl a + vl b) := by
      rw [hs, ← hv, h1]
      have hl := P.len
      have := dg_snoc P.low (x := 1) (by omega)
      rw [hl] at this
      exact this.symm
    rw [e, hres]
    rfl
theorem plusDS_ok : FspOk Tryz.prog 182 plusDS := tower_S fs_nil sp_nil ⟨Tryz.func182, fun _ _ => by kernel_rfl⟩ (by intro α args k; unfold plusDS; split <;> simp only [cond_bind, Option.bind_some, Option.bind_none]) fun args out hs h => by
  unfold plusDS at h
  split at h
  · rename_i a b
    cases hb : isD a && isD b
    · rw [hb] at h; cases h
    · rw [hb] at h
      rw [Bool.and_eq_true] at hb
      exact ⟨30, 0, (plusD_plain a b hb.1 hb.2 some).trans h⟩
  · cases h
end Go.Proofs.YtgpljldfbhkdlaaGreat

/- The reference's natural numbers: minus, times. -/
namespace Go.Proofs.YtgpljldfbhkdlaaGreat
open Go.RowKit

def fnA : FuncId → Option Fsp := fun g =>
  if g = 139 then some ofS else
  if g = 178 then some trimS else
  if g = 180 then some numberS else
  if g = 181 then some orderS else
  if g = 182 then some plusDS else
  none
theorem fnA_ok : FsOk fnA :=
  fs_cons ofS_ok <|
  fs_cons trimS_ok <|
  fs_cons numberS_ok <|
  fs_cons orderS_ok <|
  fs_cons plusDS_ok <|
  fs_nil

def minusDS : Fsp := fun _ args k => match args with
  | [.ro (.int .i64) a, .ro (.int .i64) b] => bif isD a && isD b && decide (vl b ≤ vl a) then k (l1 (dg (vl a - vl b))) else none
  | _ => none
section
variable {α : Type}
def mnE (out : List Int) (d i : Int) : Option (LRes (Int × List Int × Int × Unit) α) :=
  bif decide (d < 0) then
    if (out.length + [IntKind.i64.wrap (d + 32768)].length) * 8 ≤ room then some (LRes.cont (1, out ++ [IntKind.i64.wrap (d + 32768)], IntKind.i64.wrap (i + 1), ())) else none
  else
    if (out.length + [d].length) * 8 ≤ room then some (LRes.cont (0, out ++ [d], IntKind.i64.wrap (i + 1), ())) else none
end
theorem minusD_text (N n0 : Nat) (α : Type) (a b : List Int) (k : AOut → Option α) : evFn real tab ((twT fnA (fun _ => none)).env real tab N n0) N Tryz.f199 α [lN a, lN b] k =
    afterL
      (iterL N
        (fun (x : Int × List Int × Int × Unit) =>
          bif decide (x.2.2.1 < (a.length : Int)) then
            if 0 ≤ x.2.2.1 ∧ x.2.2.1 < (a.length : Int) then
              bif decide (x.2.2.1 < (b.length : Int)) then
                if 0 ≤ x.2.2.1 ∧ x.2.2.1 < (b.length : Int) then
                  mnE x.2.1 (IntKind.i64.wrap (IntKind.i64.wrap (a.getD x.2.2.1.toNat (Int.ofNat 0) - x.1) - b.getD x.2.2.1.toNat (Int.ofNat 0))) x.2.2.1
                else none
              else mnE x.2.1 (IntKind.i64.wrap (a.getD x.2.2.1.toNat (Int.ofNat 0) - x.1)) x.2.2.1
            else none
          else some (LRes.brk 0 (x.1, x.2.1, x.2.2.1, ())))
        (0, [], 0, ()))
      fun id y => if id = 0 then k (l1 (trimL y.2.1)) else none := by kernel_rfl
theorem minusD_plain {α : Type} (a b : List Int) (ha : isD a = true) (hb : isD b = true) (hab : vl b ≤ vl a) (k : AOut → Option α) : evFn real tab ((twT fnA (fun _ => none)).env real tab 30 0) 30 Tryz.f199 α [lN a, lN b] k = k (l1 (dg (vl a - vl b))) := by
  rw [minusD_text]
  have la := isD_len ha
  have lb := isD_len hb
  have wa := isD_low ha
  have wb := isD_low hb
  rw [isD_iff] at ha hb
  generalize hf : (fun x : Int × List Int × Int × Unit => (_ : Option (LRes (Int × List Int × Int × Unit) α))) = f
  have e : iterL 30 f (0, [], 0, ()) = some (.brk 0 ((mnSt a b a.length).1, (mnSt a b a.length).2, (a.length : Int), ())) := by
    refine iterL_count (f := f) (fun i : Nat => ((mnSt a b i).1, (mnSt a b i).2, (i : Int), ())) (fun y e => by cases e) a.length (fun i hi => ?_) ?_ 0 (Nat.zero_le _) 30 (by omega)
    · rw [← hf]
      have h := mn_is wa wb i
      have hl := h.len
      have hc := h.c
      have h2 := low_get wa i
      have h3 := low_get wb i
      have fin : ∀ d : Int, d = mnD a b (mnSt a b i) i → mnE (α := α) (mnSt a b i).2 d i = some (.cont ((mnSt a b (i + 1)).1, (mnSt a b (i + 1)).2, ((i + 1 : Nat) : Int), ())) := fun d e => by
        have hd : -32768 ≤ d ∧ d < 32768 := by rw [e]; unfold mnD; omega
        unfold mnE
        simp only [mnSt, ← e]
        by_cases hn : d < 0
        · rw [decide_eq_true hn, cond_true, w64 (d + 32768) (by omega), w64 ((i : Int) + 1) (by omega), if_pos (by rw [roomx, hl]; simp; omega), if_pos hn, if_pos hn]
          rfl
        · rw [decide_eq_false hn, cond_false, w64 ((i : Int) + 1) (by omega), if_pos (by rw [roomx, hl]; simp; omega), if_neg hn, if_neg hn]
          rfl
      dsimp only
      rw [decide_eq_true (by omega), cond_true, if_pos ⟨by omega, by omega⟩]
      by_cases hlt : i < b.length
      · rw [decide_eq_true (by omega), cond_true, if_pos ⟨by omega, by omega⟩]
        refine fin _ ?_
        show IntKind.i64.wrap (IntKind.i64.wrap (a.getD i 0 - (mnSt a b i).1) - b.getD i 0) = _
        rw [w64 (a.getD i 0 - _) (by omega), w64 _ (by omega)]; rfl
      · rw [decide_eq_false (by omega), cond_false]
        refine fin _ ?_
        have : b.getD i 0 = 0 := by rw [List.getD_eq_getElem?_getD, List.getElem?_eq_none (by omega)]; rfl
        show IntKind.i64.wrap (a.getD i 0 - (mnSt a b i).1) = _
        rw [w64 _ (by omega)]; unfold mnD; omega
    · rw [← hf]
      have h1 : decide ((a.length : Int) < (a.length : Int)) = false := decide_eq_false (by omega)
      simp only [h1, cond_false]
  have hm := mn_dg hb.2.1 hab
  rw [← ha.1, ← hb.1] at hm
  rw [e]
  show k (l1 (trimL (mnSt a b a.length).2)) = _
  rw [hm]
theorem minusDS_ok : FspOk Tryz.prog 199 minusDS := tower_S fnA_ok sp_nil ⟨Tryz.func199, fun _ _ => by kernel_rfl⟩ (by intro α args k; unfold minusDS; split <;> simp only [cond_bind, Option.bind_some, Option.bind_none]) fun args out hs h => by
  unfold minusDS at h
  split at h
  · rename_i a b
    cases hb : isD a && isD b && decide (vl b ≤ vl a)
    · rw [hb] at h; cases h
    · rw [hb] at h
      simp only [Bool.and_eq_true, decide_eq_true_eq] at hb
      exact ⟨30, 0, (minusD_plain a b hb.1.1 hb.1.2 hb.2 some).trans h⟩
  · cases h

/-! Products. -/
def timesDS : Fsp := fun _ args k => match args with
  | [.ro (.int .i64) a, .ro (.int .i64) b] => bif isD a && isD b then k (l1 (dg (vl a * vl b))) else none
  | _ => none
theorem timesD_text (N n0 : Nat) (α : Type) (a b : List Int) (k : AOut → Option α) : evFn real tab ((twT fnA (fun _ => none)).env real tab N n0) N Tryz.f138 α [lN a, lN b] k =
    if 0 ≤ IntKind.i64.wrap ((a.length : Int) + (b.length : Int)) ∧ IntKind.i64.wrap ((a.length : Int) + (b.length : Int)) ≤ IntKind.i64.wrap ((a.length : Int) + (b.length : Int)) ∧ IntKind.i64.wrap ((a.length : Int) + (b.length : Int)) * ((8 : Nat) : Int) ≤ (room : Int) then
      afterL
        (iterL N
          (fun (x : Int × List Int × Unit) =>
            bif decide (x.1 < (a.length : Int)) then
              afterL
                (iterL N
                  (fun (y : Int × Int × List Int × Unit) =>
                    bif decide (y.2.1 < (b.length : Int)) then
                      if 0 ≤ IntKind.i64.wrap (x.1 + y.2.1) ∧ IntKind.i64.wrap (x.1 + y.2.1) < (y.2.2.1.length : Int) then
                        if 0 ≤ x.1 ∧ x.1 < (a.length : Int) then
                          if 0 ≤ y.2.1 ∧ y.2.1 < (b.length : Int) then
                            if 0 ≤ IntKind.i64.wrap (x.1 + y.2.1) ∧ IntKind.i64.wrap (x.1 + y.2.1) < (y.2.2.1.length : Int) then
                              some (LRes.cont (IntKind.i64.wrap ((IntKind.i64.wrap (IntKind.i64.wrap (y.1 + y.2.2.1.getD (IntKind.i64.wrap (x.1 + y.2.1)).toNat (Int.ofNat 0)) + IntKind.i64.wrap (a.getD x.1.toNat (Int.ofNat 0) * b.getD y.2.1.toNat (Int.ofNat 0)))).tdiv 32768),
                                IntKind.i64.wrap (y.2.1 + 1),
                                y.2.2.1.set (IntKind.i64.wrap (x.1 + y.2.1)).toNat ((IntKind.i64.wrap (IntKind.i64.wrap (y.1 + y.2.2.1.getD (IntKind.i64.wrap (x.1 + y.2.1)).toNat (Int.ofNat 0)) + IntKind.i64.wrap (a.getD x.1.toNat (Int.ofNat 0) * b.getD y.2.1.toNat (Int.ofNat 0)))).tmod 32768), ()))
                            else none
                          else none
                        else none
                      else none
                    else some (LRes.brk 2 (y.1, y.2.1, y.2.2.1, ())))
                  (0, 0, x.2.1, ()))
                fun id y =>
                  if id = 2 then
                    if 0 ≤ IntKind.i64.wrap (x.1 + (b.length : Int)) ∧ IntKind.i64.wrap (x.1 + (b.length : Int)) < (y.2.2.1.length : Int) then
                      some (LRes.cont (IntKind.i64.wrap (x.1 + 1), y.2.2.1.set (IntKind.i64.wrap (x.1 + (b.length : Int))).toNat y.1, ()))
                    else none
                  else none
            else some (LRes.brk 0 (x.1, x.2.1, ())))
          (0, List.replicate (IntKind.i64.wrap ((a.length : Int) + (b.length : Int))).toNat (Int.ofNat 0), ()))
        fun id y => if id = 0 then k (l1 (trimL y.2.1)) else none
    else none := by kernel_rfl
theorem timesD_plain {α : Type} (a b : List Int) (ha : isD a = true) (hb : isD b = true) (k : AOut → Option α) : evFn real tab ((twT fnA (fun _ => none)).env real tab 30 0) 30 Tryz.f138 α [lN a, lN b] k = k (l1 (dg (vl a * vl b))) := by
  rw [timesD_text]
  have la := isD_len ha
  have lb := isD_len hb
  have wa := isD_low ha
  have wb := isD_low hb
  rw [w64 ((a.length : Int) + (b.length : Int)) (by omega), if_pos ⟨by omega, by omega, by rw [roomx]; omega⟩]
  generalize hf : (fun x : Int × List Int × Unit => (_ : Option (LRes (Int × List Int × Unit) α))) = f
  have hrep : List.replicate ((a.length : Int) + (b.length : Int)).toNat (Int.ofNat 0) = outSt a b 0 := by
    rw [show ((a.length : Int) + (b.length : Int)).toNat = a.length + b.length by omega]; rfl
  rw [hrep]
  have e : iterL 30 f (0, outSt a b 0, ()) = some (.brk 0 ((a.length : Int), outSt a b a.length, ())) := by
    refine iterL_count (f := f) (fun i : Nat => ((i : Int), outSt a b i, ())) (fun y e => by cases e) a.length (fun i hi => ?_) ?_ 0 (Nat.zero_le _) 30 (by omega)
    · rw [← hf]
      have O := out_is wa wb i (by omega)
      have Ol := O.len
      dsimp only
      rw [decide_eq_true (by omega), cond_true]
      generalize hg : (fun y : Int × Int × List Int × Unit => (_ : Option (LRes (Int × Int × List Int × Unit) (LRes (Int × List Int × Unit) α)))) = g
      have e2 : iterL 30 g (0, 0, outSt a b i, ()) = some (.brk 2 ((inSt (a.getD i 0) b i (outSt a b i) b.length).1, (b.length : Int), (inSt (a.getD i 0) b i (outSt a b i) b.length).2, ())) := by
        refine iterL_count (f := g) (fun q : Nat => ((inSt (a.getD i 0) b i (outSt a b i) q).1, (q : Int), (inSt (a.getD i 0) b i (outSt a b i) q).2, ())) (fun y e => by cases e) b.length (fun q hq => ?_) ?_ 0 (Nat.zero_le _) 30 (by omega)
        · rw [← hg]
          have I := in_is (low_get wa i) wb O.low (i := i) (by omega) q (by omega)
          have Il := I.len
          have hc := inC_in (low_get wa i) wb I
          have h1 := I.c
          have h2 := low_get I.low (i + q)
          have h3 := low_get wb q
          have h4 := low_get wa i
          have h5 : 0 ≤ a.getD i 0 * b.getD q 0 := Int.mul_nonneg h4.1 h3.1
          have h6 : a.getD i 0 * b.getD q 0 ≤ 32767 * 32767 := Int.mul_le_mul (by omega) (by omega) h3.1 (by omega)
          have hcc : inC (a.getD i 0) b i (inSt (a.getD i 0) b i (outSt a b i) q) q = (inSt (a.getD i 0) b i (outSt a b i) q).1 + (inSt (a.getD i 0) b i (outSt a b i) q).2.getD (i + q) 0 + a.getD i 0 * b.getD q 0 := rfl
          dsimp only
          have hz : ((i : Int) + (q : Int)).toNat = i + q := by omega
          rw [decide_eq_true (by omega), cond_true, w64 ((i : Int) + (q : Int)) (by omega), hz, if_pos ⟨by omega, by omega⟩, if_pos ⟨by omega, by omega⟩, if_pos ⟨by omega, by omega⟩, if_pos ⟨by omega, by omega⟩]
          rw [show ((i : Int)).toNat = i from rfl, show ((q : Int)).toNat = q from rfl, show Int.ofNat 0 = 0 from rfl]
          rw [w64 ((inSt (a.getD i 0) b i (outSt a b i) q).1 + _) (by omega), w64 (a.getD i 0 * b.getD q 0) (by omega), ← hcc, w64 (inC _ _ _ _ _) (by omega), Int.tmod_eq_emod_of_nonneg hc.1, Int.tdiv_eq_ediv_of_nonneg hc.1, w64 (inC _ _ _ _ _ / 32768) (by omega), w64 ((q : Int) + 1) (by omega)]
          rfl
        · rw [← hg]
          have h1 : decide ((b.length : Int) < (b.length : Int)) = false := decide_eq_false (by omega)
          simp only [h1, cond_false]
      have I := in_is (low_get wa i) wb O.low (i := i) (by omega) b.length (Nat.le_refl _)
      have Il := I.len
      rw [e2]
      have hz : ((i : Int) + (b.length : Int)).toNat = i + b.length := by omega
      simp only [afterL]
      rw [if_pos trivial, w64 ((i : Int) + (b.length : Int)) (by omega), hz, w64 ((i : Int) + 1) (by omega)]
      rw [if_pos ⟨by omega, by show _ < ((inSt (a.getD i 0) b i (outSt a b i) b.length).2.length : Int); omega⟩]
      rfl
    · rw [← hf]
      have h1 : decide ((a.length : Int) < (a.length : Int)) = false := decide_eq_false (by omega)
      simp only [h1, cond_false]
  rw [e]
  show k (l1 (trimL (outSt a b a.length))) = _
  rw [out_dg (isD_isDg ha) (isD_isDg hb)]
theorem timesDS_ok : FspOk Tryz.prog 138 timesDS := tower_S fnA_ok sp_nil ⟨Tryz.func138, fun _ _ => by kernel_rfl⟩ (by intro α args k; unfold timesDS; split <;> simp only [cond_bind, Option.bind_some, Option.bind_none]) fun args out hs h => by
  unfold timesDS at h
  split at h
  · rename_i a b
    cases hb : isD a && isD b
    · rw [hb] at h; cases h
    · rw [hb] at h
      rw [Bool.and_eq_true] at hb
      exact ⟨30, 0, (timesD_plain a b hb.1 hb.2 some).trans h⟩
  · cases h
end Go.Proofs.YtgpljldfbhkdlaaGreat

/- The reference's natural numbers: up, over, root. -/
namespace Go.Proofs.YtgpljldfbhkdlaaGreat
open Go.RowKit

def fnB : FuncId → Option Fsp := fun g =>
  if g = 199 then some minusDS else
  if g = 138 then some timesDS else
  fnA g
theorem fnB_ok : FsOk fnB :=
  fs_cons minusDS_ok <|
  fs_cons timesDS_ok <|
  fnA_ok

/-- A tower in which nil slices are memory that stays. -/
noncomputable def twZ (fs : FuncId → Option Fsp) (sp : FuncId → Option (Cv → Cv)) : Tower := ⟨fs, fun f => f != 999979, sp, lookF fnsT⟩
theorem tower_Z {fs : FuncId → Option Fsp} {sp : FuncId → Option (Cv → Cv)} (h : FsOk fs) (hs : SpOk sp) {f : FuncId} {fn : Func} (hf : FnOk Tryz.prog f fn) {S : Fsp}
    (hn : ∀ (α : Type) args (k : AOut → Option α), S α args k = (S AOut args some).bind k)
    (hS : ∀ args out, (∀ c ∈ args, Sm c) → S AOut args some = some out → ∃ N n, evFn real tab ((twZ fs sp).env real tab N n) N fn AOut args some = some out) : FspOk Tryz.prog f S where
  enter := hf.enter
  nat := hn
  calls := fun args out hout M w cargs hM hl hr => by
    have hsm : ∀ c ∈ args, Sm c := fun c hc => by
      obtain ⟨j, hj, rfl⟩ := List.mem_iff_getElem.1 hc
      exact (hr j _ _ (List.getElem?_eq_getElem hj) (Array.getElem?_eq_getElem (by omega))).sm
    obtain ⟨N, n, hN⟩ := hS args out hsm hout
    exact (fn_ok mixedT tabOk (tower_ok mixedT tabOk (tw := twZ fs sp) ⟨h, hs, look_ok fnsT_ok⟩ N n) N hf.get hf.enter).calls args out hN M w cargs hM hl hr

theorem bit_searchK {α : Type} {f : Int × Int × Unit → Option (LRes (Int × Int × Unit) α)} (bid : Nat) (p : Nat → Bool) (K : Nat)
    (hf : ∀ n k, n % 2 ^ (k + 1) = 0 → n + 2 ^ (k + 1) ≤ 2 ^ K → p n = true → f ((n : Int), ((2 ^ k : Nat) : Int), ()) = some (.cont (((bif p (n + 2 ^ k) then n + 2 ^ k else n : Nat) : Int), ((2 ^ k / 2 : Nat) : Int), ())))
    (hend : ∀ n : Nat, f ((n : Int), 0, ()) = some (.brk bid ((n : Int), 0, ()))) :
    ∀ (k : Nat) (n : Nat), n % 2 ^ k = 0 → n + 2 ^ k ≤ 2 ^ K → p n = true → ∀ N, k < N → iterL N f ((n : Int), ((2 ^ k / 2 : Nat) : Int), ()) = some (.brk bid (((bs p k n : Nat) : Int), 0, ()))
  | 0, n, h1, h2, h3, N, hN => by
    obtain ⟨N, rfl⟩ : ∃ M, N = M + 1 := ⟨N - 1, by omega⟩
    have e : (((2 ^ 0 / 2 : Nat)) : Int) = 0 := rfl
    rw [e]
    simp only [iterL, hend]
    rfl
  | k + 1, n, h1, h2, h3, N, hN => by
    obtain ⟨N, rfl⟩ : ∃ M, N = M + 1 := ⟨N - 1, by omega⟩
    have e0 : 2 ^ (k + 1) / 2 = 2 ^ k := by rw [Nat.pow_succ]; omega
    have e1 : 2 ^ (k + 1) = 2 ^ k + 2 ^ k := by rw [Nat.pow_succ]; omega
    have hd : n % 2 ^ k = 0 := by
      have : (n % 2 ^ (k + 1)) % 2 ^ k = n % 2 ^ k := Nat.mod_mod_of_dvd _ ⟨2, by rw [Nat.pow_succ]⟩
      rw [h1] at this
      simpa using this.symm
    have hf' := hf n k h1 h2 h3
    rw [e0]
    simp only [iterL, hf', bs]
    cases hp : p (n + 2 ^ k)
    · exact bit_searchK bid p K hf hend k n hd (by omega) h3 N (by omega)
    · exact bit_searchK bid p K hf hend k (n + 2 ^ k) (by rw [Nat.add_mod_right]; exact hd) (by omega) hp N (by omega)

theorem cmp3_ge {a b : Int} : (cmp3 a b ≥ 0) ↔ b ≤ a := by
  unfold cmp3
  repeat' split
  all_goals omega
theorem cmp3_le0 {a b : Int} : (cmp3 a b ≤ 0) ↔ a ≤ b := by
  unfold cmp3
  repeat' split
  all_goals omega

def ovB (a b : List Int) : Bool := isD a && isD b && decide (0 < vl b) && decide (vl b < 46768052394588893382517914646921056628989841375232)
def overDS : Fsp := fun _ args k => match args with
  | [.ro (.int .i64) a, .ro (.int .i64) b] => bif ovB a b then k (.ret (.tup [lN (dg (vl a / vl b)), lN (dg (vl a % vl b))])) else none
  | _ => none
section
variable {α : Type} (N : Nat) (b R : List Int)
def ovIn (K : Int → Option α) : Option α :=
  afterL
    (iterL N
      (fun (y : Int × Int × Unit) =>
        bif decide (y.2.1 > 0) then
          bif isD R && isD b then
            bif decide (cmp3 (vl R) (vl b) ≥ 0) then
              bif decide (0 ≤ IntKind.i64.wrap (y.1 + y.2.1)) && decide (IntKind.i64.wrap (y.1 + y.2.1) ≤ 9223372036854775807) then
                bif isD b && isD (dg (IntKind.i64.wrap (y.1 + y.2.1))) then
                  bif isD (dg (vl b * vl (dg (IntKind.i64.wrap (y.1 + y.2.1))))) && isD R then
                    bif decide (cmp3 (vl (dg (vl b * vl (dg (IntKind.i64.wrap (y.1 + y.2.1)))))) (vl R) ≤ 0) then
                      some (LRes.cont (IntKind.i64.wrap (y.1 + y.2.1), IntKind.i64.wrap (y.2.1.tdiv 2), ()))
                    else some (LRes.cont (y.1, IntKind.i64.wrap (y.2.1.tdiv 2), ()))
                  else none
                else none
              else none
            else some (LRes.brk 2 (y.1, y.2.1, ()))
          else none
        else some (LRes.brk 2 (y.1, y.2.1, ())))
      (0, 16384, ()))
    fun id y => if id = 2 then K y.1 else none
end
theorem over_text (N n0 : Nat) (α : Type) (a b : List Int) (k : AOut → Option α) : evFn real tab ((twZ fnB (fun _ => none)).env real tab N n0) N Tryz.f179 α [lN a, lN b] k =
    if 0 ≤ (a.length : Int) ∧ (a.length : Int) ≤ (a.length : Int) ∧ (a.length : Int) * ((8 : Nat) : Int) ≤ (room : Int) then
      afterL
        (iterL N
          (fun (x : List Int × Int × List Int × Unit) =>
            bif decide (x.2.1 ≥ 0) then
              if 0 ≤ x.2.1 ∧ x.2.1 < (a.length : Int) then
                if ([a.getD x.2.1.toNat (Int.ofNat 0)].length + x.1.length) * 8 ≤ room then
                  ovIn N b (trimL ([a.getD x.2.1.toNat (Int.ofNat 0)] ++ x.1)) fun y =>
                    if 0 ≤ x.2.1 ∧ x.2.1 < (x.2.2.1.length : Int) then
                      bif decide (0 ≤ y) && decide (y ≤ 9223372036854775807) then
                        bif isD b && isD (dg y) then
                          bif isD (trimL ([a.getD x.2.1.toNat (Int.ofNat 0)] ++ x.1)) && isD (dg (vl b * vl (dg y))) && decide (vl (dg (vl b * vl (dg y))) ≤ vl (trimL ([a.getD x.2.1.toNat (Int.ofNat 0)] ++ x.1))) then
                            some (LRes.cont (dg (vl (trimL ([a.getD x.2.1.toNat (Int.ofNat 0)] ++ x.1)) - vl (dg (vl b * vl (dg y)))), IntKind.i64.wrap (x.2.1 - 1), x.2.2.1.set x.2.1.toNat y, ()))
                          else none
                        else none
                      else none
                    else none
                else none
              else none
            else some (LRes.brk 0 (x.1, x.2.1, x.2.2.1, ())))
          ([], IntKind.i64.wrap ((a.length : Int) - 1), List.replicate (a.length : Int).toNat (Int.ofNat 0), ()))
        fun id y => if id = 0 then k (.ret (.tup [lN (trimL y.2.2.1), lN y.1])) else none
    else none := by kernel_rfl

/-- One part of a quotient. -/
theorem ovIn_plain {α : Type} {b R : List Int} (hR : isD R = true) (hb : isD b = true) (h0 : 0 < vl b) (h1 : vl b < 46768052394588893382517914646921056628989841375232) (h2 : vl R < 32768 * vl b) (K : Int → Option α) : ovIn 30 b R K = K (vl R / vl b) := by
  unfold ovIn
  generalize hf : (fun y : Int × Int × Unit => (_ : Option (LRes (Int × Int × Unit) α))) = f
  have hR0 := (isD_iff.1 hR).2.1
  by_cases hge : vl b ≤ vl R
  · have e := bit_searchK (f := f) 2 (fun m => decide (vl b * m ≤ vl R)) 15 (fun n k a1 a2 a3 => ?_) (fun n => ?_) 15 0 rfl (by omega) (by simp; exact hR0) 30 (by omega)
    · have e' : iterL 30 f (0, 16384, ()) = some (.brk 2 (((bs (fun m => decide (vl b * m ≤ vl R)) 15 0 : Nat) : Int), 0, ())) := e
      rw [e']
      have hq0 : 0 ≤ vl R / vl b := Int.ediv_nonneg hR0 (Int.le_of_lt h0)
      have hq := Int.emod_add_mul_ediv (vl R) (vl b)
      have hr0 := Int.emod_nonneg (vl R) (show vl b ≠ 0 by omega)
      have hr1 := Int.emod_lt_of_pos (vl R) h0
      have hbs : (vl R / vl b).toNat = bs (fun m => decide (vl b * m ≤ vl R)) 15 0 := bs_eq _ (fun m n hnm hm => by
          simp only [decide_eq_true_eq] at hm ⊢
          have := Int.mul_le_mul_of_nonneg_left (show (n : Int) ≤ m by omega) (Int.le_of_lt h0)
          omega) (by simp; exact hR0) (by simp; omega) (by
          simp only [decide_eq_true_eq]
          rw [show (((vl R / vl b).toNat : Nat) : Int) = vl R / vl b by omega]; omega) (by
          simp only [decide_eq_false_iff_not]
          rw [show ((((vl R / vl b).toNat + 1 : Nat)) : Int) = vl R / vl b + 1 by omega, Int.mul_add]; omega)
      rw [← hbs]
      show K (((vl R / vl b).toNat : Nat) : Int) = _
      rw [show (((vl R / vl b).toNat : Nat) : Int) = vl R / vl b by omega]
    · rw [← hf]
      have p15 : (2 : Nat) ^ 15 = 32768 := rfl
      have hk : 2 ^ (k + 1) = 2 ^ k + 2 ^ k := by rw [Nat.pow_succ]; omega
      have hpos : 0 < 2 ^ k := Nat.two_pow_pos k
      have hw : IntKind.i64.wrap ((n : Int) + ((2 ^ k : Nat) : Int)) = ((n + 2 ^ k : Nat) : Int) := by rw [w64 _ (by omega)]; omega
      have hsh : IntKind.i64.wrap ((((2 ^ k : Nat) : Int)).tdiv 2) = ((2 ^ k / 2 : Nat) : Int) := by
        rw [Int.tdiv_eq_ediv_of_nonneg (by omega), w64 _ (by omega)]; omega
      have m0 : 0 ≤ vl b * ((n + 2 ^ k : Nat) : Int) := Int.mul_nonneg (by omega) (by omega)
      have m1 : vl b * ((n + 2 ^ k : Nat) : Int) ≤ vl b * 32768 := Int.mul_le_mul_of_nonneg_left (by omega) (by omega)
      dsimp only
      rw [decide_eq_true (show ((2 ^ k : Nat) : Int) > 0 by omega), hR, hb, decide_eq_true (cmp3_ge.2 hge), hw, hsh, decide_eq_true (show 0 ≤ ((n + 2 ^ k : Nat) : Int) by omega), decide_eq_true (show ((n + 2 ^ k : Nat) : Int) ≤ 9223372036854775807 by omega), isD_dg (n := ((n + 2 ^ k : Nat) : Int)) ⟨by omega, by omega⟩, vl_dg _ (show 0 ≤ ((n + 2 ^ k : Nat) : Int) by omega), isD_dg ⟨m0, by omega⟩, vl_dg _ m0]
      simp only [Bool.and_self, cond_true]
      by_cases hp : vl b * ((n + 2 ^ k : Nat) : Int) ≤ vl R
      · rw [decide_eq_true (cmp3_le0.2 hp), decide_eq_true hp]; rfl
      · rw [decide_eq_false (fun c => hp (cmp3_le0.1 c)), decide_eq_false hp]; rfl
    · rw [← hf]
      rfl
  · have hstop : f (0, 16384, ()) = some (.brk 2 (0, 16384, ())) := by
      rw [← hf]
      dsimp only
      rw [hR, hb, decide_eq_false (fun c => hge (cmp3_ge.1 c))]
      rfl
    have e : iterL 30 f (0, 16384, ()) = some (.brk 2 (0, 16384, ())) := by simp only [iterL, hstop]
    rw [e, Int.ediv_eq_zero_of_lt hR0 (by omega)]
    rfl

/-- The quotient's parts, from the top. -/
def qSt (a : List Int) (B : Int) : Nat → List Int
  | 0 => List.replicate a.length 0
  | j + 1 => (qSt a B j).set (a.length - 1 - j) ((a.getD (a.length - 1 - j) 0 + 32768 * (vl (a.drop (a.length - j)) % B)) / B)
theorem drop_step {a : List Int} {j : Nat} (hj : j < a.length) : a.drop (a.length - (j + 1)) = a.getD (a.length - 1 - j) 0 :: a.drop (a.length - j) := by
  have hlt : a.length - 1 - j < a.length := by omega
  rw [show a.length - (j + 1) = a.length - 1 - j by omega, List.drop_eq_getElem_cons hlt, List.getD_eq_getElem?_getD, List.getElem?_eq_getElem hlt, show a.length - 1 - j + 1 = a.length - j by omega]
  rfl
structure QIs (a : List Int) (B : Int) (j : Nat) : Prop where
  len : (qSt a B j).length = a.length
  low : low15 (qSt a B j)
  vl : vl ((qSt a B j).drop (a.length - j)) = vl (a.drop (a.length - j)) / B
theorem part_in {a : List Int} {B : Int} (ha : low15 a) (hB : 0 < B) (j : Nat) : 0 ≤ a.getD (a.length - 1 - j) 0 + 32768 * (vl (a.drop (a.length - j)) % B) ∧ a.getD (a.length - 1 - j) 0 + 32768 * (vl (a.drop (a.length - j)) % B) < 32768 * B := by
  have h1 := low_get ha (a.length - 1 - j)
  have h2 := Int.emod_nonneg (vl (a.drop (a.length - j))) (show B ≠ 0 by omega)
  have h3 := Int.emod_lt_of_pos (vl (a.drop (a.length - j))) hB
  omega
theorem q_is {a : List Int} {B : Int} (ha : low15 a) (hB : 0 < B) : ∀ j, j ≤ a.length → QIs a B j
  | 0, _ => ⟨by simp [qSt], fun x hx => by simp [qSt] at hx; omega, by simp [qSt, vl]⟩
  | j + 1, hj => by
    have h := q_is ha hB j (by omega)
    have hp := part_in ha hB j
    have hl := h.len
    have hd : 0 ≤ (a.getD (a.length - 1 - j) 0 + 32768 * (vl (a.drop (a.length - j)) % B)) / B ∧ (a.getD (a.length - 1 - j) 0 + 32768 * (vl (a.drop (a.length - j)) % B)) / B < 32768 :=
      ⟨Int.ediv_nonneg hp.1 (Int.le_of_lt hB), Int.ediv_lt_of_lt_mul hB (by omega)⟩
    refine ⟨by simp [qSt, hl], low_set h.low hd, ?_⟩
    have hq : (qSt a B (j + 1)).length = a.length := by simp [qSt, hl]
    have h4 : (qSt a B (j + 1)).drop (a.length - (j + 1)) = (a.getD (a.length - 1 - j) 0 + 32768 * (vl (a.drop (a.length - j)) % B)) / B :: (qSt a B j).drop (a.length - j) := by
      rw [← hq, drop_step (by omega), hq]
      congr 1
      · simp only [qSt]
        rw [List.getD_eq_getElem?_getD, List.getElem?_set_self (by omega)]; rfl
      · simp only [qSt]
        rw [List.drop_set_of_lt (by omega)]
    rw [h4, drop_step (by omega)]
    simp only [vl]
    rw [h.vl]
    generalize a.getD (a.length - 1 - j) 0 = d
    have e := Int.emod_add_mul_ediv (vl (a.drop (a.length - j))) B
    generalize vl (a.drop (a.length - j)) / B = q at *
    generalize vl (a.drop (a.length - j)) % B = r at *
    rw [← e, show d + 32768 * (r + B * q) = d + 32768 * r + B * (32768 * q) by rw [Int.mul_add, Int.mul_left_comm]; omega, Int.add_mul_ediv_left _ _ (by omega)]
theorem rest_step {a : List Int} {B : Int} (hB : 0 < B) {j : Nat} (hj : j < a.length) : vl (a.drop (a.length - (j + 1))) % B = (a.getD (a.length - 1 - j) 0 + 32768 * (vl (a.drop (a.length - j)) % B)) % B := by
  rw [drop_step hj]
  simp only [vl]
  have e := Int.emod_add_mul_ediv (vl (a.drop (a.length - j))) B
  generalize a.getD (a.length - 1 - j) 0 = d
  generalize vl (a.drop (a.length - j)) / B = q at *
  generalize vl (a.drop (a.length - j)) % B = r at *
  rw [← e, show d + 32768 * (r + B * q) = d + 32768 * r + B * (32768 * q) by rw [Int.mul_add, Int.mul_left_comm]; omega, Int.add_mul_emod_self_left]
theorem over_plain {α : Type} (a b : List Int) (h : ovB a b = true) (k : AOut → Option α) : evFn real tab ((twZ fnB (fun _ => none)).env real tab 30 0) 30 Tryz.f179 α [lN a, lN b] k = k (.ret (.tup [lN (dg (vl a / vl b)), lN (dg (vl a % vl b))])) := by
  rw [over_text]
  simp only [ovB, Bool.and_eq_true, decide_eq_true_eq] at h
  obtain ⟨⟨⟨ha, hb⟩, hB0⟩, hB1⟩ := h
  have la := isD_len ha
  have wa := isD_low ha
  have ha' := isD_iff.1 ha
  rw [if_pos ⟨by omega, by omega, by rw [roomx]; omega⟩]
  generalize hf : (fun x : List Int × Int × List Int × Unit => (_ : Option (LRes (List Int × Int × List Int × Unit) α))) = f
  have e : iterL 30 f ([], IntKind.i64.wrap ((a.length : Int) - 1), List.replicate (a.length : Int).toNat (Int.ofNat 0), ()) = some (.brk 0 (dg (vl a % vl b), -1, qSt a (vl b) a.length, ())) := by
    refine (congrArg (iterL 30 f) ?_).trans (iterL_count (f := f) (fun j : Nat => (dg (vl (a.drop (a.length - j)) % vl b), (a.length : Int) - 1 - j, qSt a (vl b) j, ())) (fun y e => by cases e) a.length (fun j hj => ?_) ?_ 0 (Nat.zero_le _) 30 (by omega))
    · rw [w64 _ (by omega)]
      simp [vl, dg_zero, qSt]
    · rw [← hf]
      have hi : ((a.length : Int) - 1 - j).toNat = a.length - 1 - j := by omega
      have hp := part_in wa hB0 j
      have Q := q_is wa hB0 j (by omega)
      have Ql := Q.len
      have r0 := Int.emod_nonneg (vl (a.drop (a.length - j))) (show vl b ≠ 0 by omega)
      have r1 := Int.emod_lt_of_pos (vl (a.drop (a.length - j))) hB0
      have rl := dg_len (n := vl (a.drop (a.length - j)) % vl b) ⟨r0, by omega⟩
      have hd := low_get wa (a.length - 1 - j)
      have hlow : low15 (a.getD (a.length - 1 - j) 0 :: dg (vl (a.drop (a.length - j)) % vl b)) := fun z hz => by
        rcases List.mem_cons.1 hz with rfl | hz
        · exact hd
        · exact low_dg _ r0 z hz
      have hT : trimL ([a.getD (a.length - 1 - j) 0] ++ dg (vl (a.drop (a.length - j)) % vl b)) = dg (a.getD (a.length - 1 - j) 0 + 32768 * (vl (a.drop (a.length - j)) % vl b)) := by
        rw [List.singleton_append, trim_dg hlow]
        simp only [vl, vl_dg _ r0]
      have hR := isD_dg (n := a.getD (a.length - 1 - j) 0 + 32768 * (vl (a.drop (a.length - j)) % vl b)) ⟨hp.1, by omega⟩
      have hv := vl_dg _ hp.1
      dsimp only
      rw [decide_eq_true (by omega), cond_true, hi, show Int.ofNat 0 = 0 from rfl, if_pos ⟨by omega, by omega⟩, if_pos (by rw [roomx]; simp; omega), hT, ovIn_plain hR hb hB0 hB1 (by rw [hv]; exact hp.2), hv, if_pos ⟨by omega, by omega⟩]
      have hst := rest_step (a := a) hB0 hj
      have hq : qSt a (vl b) (j + 1) = (qSt a (vl b) j).set (a.length - 1 - j) ((a.getD (a.length - 1 - j) 0 + 32768 * (vl (a.drop (a.length - j)) % vl b)) / vl b) := rfl
      rw [hst, hq]
      generalize a.getD (a.length - 1 - j) 0 + 32768 * (vl (a.drop (a.length - j)) % vl b) = R at *
      have q0 : 0 ≤ R / vl b := Int.ediv_nonneg hp.1 (Int.le_of_lt hB0)
      have q1 : R / vl b < 32768 := Int.ediv_lt_of_lt_mul hB0 (by omega)
      have eq := Int.emod_add_mul_ediv R (vl b)
      have s0 := Int.emod_nonneg R (show vl b ≠ 0 by omega)
      have m0 : 0 ≤ vl b * (R / vl b) := Int.mul_nonneg (by omega) q0
      rw [decide_eq_true q0, decide_eq_true (show R / vl b ≤ 9223372036854775807 by omega), hb, isD_dg (n := R / vl b) ⟨q0, by omega⟩, vl_dg _ q0, hR, isD_dg (n := vl b * (R / vl b)) ⟨m0, by omega⟩, vl_dg _ m0, decide_eq_true (show vl b * (R / vl b) ≤ R by omega), w64 _ (by omega)]
      simp only [Bool.and_self, cond_true]
      rw [show R - vl b * (R / vl b) = R % vl b by omega, show (a.length : Int) - 1 - j - 1 = (a.length : Int) - 1 - ((j + 1 : Nat) : Int) by omega]
    · rw [← hf]
      simp only [decide_eq_false (show ¬ (a.length : Int) - 1 - a.length ≥ 0 by omega), cond_false, Nat.sub_self, List.drop_zero]
      rw [show (a.length : Int) - 1 - a.length = -1 by omega]
  have Q := q_is wa hB0 a.length (Nat.le_refl _)
  have Qv := Q.vl
  rw [Nat.sub_self, List.drop_zero, List.drop_zero] at Qv
  rw [e]
  show k (.ret (.tup [lN (trimL (qSt a (vl b) a.length)), lN (dg (vl a % vl b))])) = _
  rw [trim_dg Q.low, Qv]
theorem overDS_ok : FspOk Tryz.prog 179 overDS := tower_Z fnB_ok sp_nil ⟨Tryz.func179, fun _ _ => by kernel_rfl⟩ (by intro α args k; unfold overDS; split <;> simp only [cond_bind, Option.bind_some, Option.bind_none]) fun args out hs h => by
  unfold overDS at h
  split at h
  · rename_i a b
    cases hb : ovB a b
    · rw [hb] at h; cases h
    · rw [hb] at h
      exact ⟨30, 0, (over_plain a b hb some).trans h⟩
  · cases h
end Go.Proofs.YtgpljldfbhkdlaaGreat

/- The reference's layer 1: sizes, quotients that are rounded, squares, shares. -/
namespace Go.Proofs.YtgpljldfbhkdlaaGreat
open Go.RowKit

def fnC : FuncId → Option Fsp := fun g =>
  if g = 179 then some overDS else
  fnB g
theorem fnC_ok : FsOk fnC :=
  fs_cons overDS_ok <|
  fnB_ok

def i7 (x : Int) : Bool := decide (-9223372036854775807 ≤ x) && decide (x ≤ 9223372036854775807)
theorem i7_iff {x : Int} : i7 x = true ↔ -9223372036854775807 ≤ x ∧ x ≤ 9223372036854775807 := by simp [i7]
theorem i7_ok {x : Int} (h : okB x = true) : i7 x = true := by rw [ok_iff] at h; rw [i7_iff]; omega
theorem i7_ab {x : Int} (h : i7 x = true) : 0 ≤ ab x ∧ ab x ≤ 9223372036854775807 := by rw [i7_iff] at h; unfold ab; split <;> omega
def rsizeS : Fsp := fun _ args k => match args with
  | [.int .i64 x] => bif i7 x then k (i1 (ab x)) else none
  | _ => none
theorem rsize_text (N n0 : Nat) (α : Type) (x : Int) (k : AOut → Option α) : evFn real tab ((twT fnC (fun _ => none)).env real tab N n0) N Tryz.f140 α [iN x] k = bif decide (x < 0) then k (i1 (IntKind.i64.wrap (0 - x))) else k (i1 x) := by kernel_rfl
theorem rsizeS_ok : FspOk Tryz.prog 140 rsizeS := tower_S fnC_ok sp_nil ⟨Tryz.func140, fun _ _ => by kernel_rfl⟩ (by intro α args k; unfold rsizeS; split <;> simp only [cond_bind, Option.bind_some, Option.bind_none]) fun args out hs h => by
  unfold rsizeS at h
  split at h
  · rename_i x
    cases hb : i7 x
    · rw [hb] at h; cases h
    · rw [hb, cond_true] at h
      rw [i7_iff] at hb
      refine ⟨1, 0, (rsize_text 1 0 AOut x some).trans (Eq.trans ?_ h)⟩
      unfold ab
      by_cases hx : x < 0
      · rw [decide_eq_true hx, cond_true, if_pos hx, w64 _ (by omega), Int.zero_sub]
      · rw [decide_eq_false hx, cond_false, if_neg hx]
  · cases h

/-- A quotient of numbers, rounded, with a sign; and whether it is small. -/
def rdQ (a b : List Int) : Int := bif smB (vl a / vl b) then vl a / vl b else 0
def rdN (a b : List Int) (m : Bool) (how : Int) : Int := sg m (rdQ a b + (bif up1 how m (vl a % vl b) (vl b) then 1 else 0))
def roundS : Fsp := fun _ args k => match args with
  | [.ro (.int .i64) a, .ro (.int .i64) b, .bool m, .int .i64 how] => bif ovB a b && wayB how then k (.ret (.tup [iN (rdN a b m how), bN (smB (vl a / vl b))])) else none
  | _ => none
section
variable {α : Type}
def rdOut (m : Bool) (n : Int) (s : Bool) (k : AOut → Option α) : Option α :=
  bif m then k (.ret (.tup [iN (IntKind.i64.wrap (0 - n)), bN s])) else k (.ret (.tup [iN n, bN s]))
def rdMore (a b : List Int) (m : Bool) (k : AOut → Option α) : Option α :=
  bif decide (((dg (vl a % vl b)).length : Int) > 0) then rdOut m (IntKind.i64.wrap ((bif smB (vl (dg (vl a / vl b))) then vl (dg (vl a / vl b)) else 0) + 1)) (smB (vl (dg (vl a / vl b)))) k
  else rdOut m (bif smB (vl (dg (vl a / vl b))) then vl (dg (vl a / vl b)) else 0) (smB (vl (dg (vl a / vl b)))) k
def rdLess (a b : List Int) (m : Bool) (k : AOut → Option α) : Option α :=
  rdOut m (bif smB (vl (dg (vl a / vl b))) then vl (dg (vl a / vl b)) else 0) (smB (vl (dg (vl a / vl b)))) k
def rdText (M : Option α) (a b : List Int) : Option α :=
  bif ovB a b then bif isD (dg (vl a / vl b)) then M else none else none
end
theorem round0_text (N n0 : Nat) (α : Type) (a b : List Int) (m : Bool) (k : AOut → Option α) : evFn real tab ((twT fnC (fun _ => none)).env real tab N n0) N Tryz.f142 α [lN a, lN b, .bool m, iN 0] k = rdText (rdLess a b m k) a b := by kernel_rfl
theorem round1_text (N n0 : Nat) (α : Type) (a b : List Int) (m : Bool) (k : AOut → Option α) : evFn real tab ((twT fnC (fun _ => none)).env real tab N n0) N Tryz.f142 α [lN a, lN b, .bool m, iN 1] k = rdText (bif m then rdMore a b m k else rdLess a b m k) a b := by kernel_rfl
theorem round2_text (N n0 : Nat) (α : Type) (a b : List Int) (m : Bool) (k : AOut → Option α) : evFn real tab ((twT fnC (fun _ => none)).env real tab N n0) N Tryz.f142 α [lN a, lN b, .bool m, iN 2] k = rdText (bif !m then rdMore a b m k else rdLess a b m k) a b := by kernel_rfl
theorem round3_text (N n0 : Nat) (α : Type) (a b : List Int) (m : Bool) (k : AOut → Option α) : evFn real tab ((twT fnC (fun _ => none)).env real tab N n0) N Tryz.f142 α [lN a, lN b, .bool m, iN 3] k =
    rdText (bif isD (dg (vl a % vl b)) && isD (dg (vl a % vl b)) then
      bif isD (dg (vl (dg (vl a % vl b)) + vl (dg (vl a % vl b)))) && isD b then
        bif decide (cmp3 (vl (dg (vl (dg (vl a % vl b)) + vl (dg (vl a % vl b))))) (vl b) ≥ 0) then rdMore a b m k else rdLess a b m k
      else none
    else none) a b := by kernel_rfl
structure OvIs (a b : List Int) : Prop where
  q : 0 ≤ vl a / vl b ∧ vl a / vl b < 1532495540865888858358347027150309183618739122183602176
  r : 0 ≤ vl a % vl b ∧ vl a % vl b < vl b
  bb : vl b < 46768052394588893382517914646921056628989841375232
  db : isD b = true
theorem ov_is {a b : List Int} (h : ovB a b = true) : OvIs a b := by
  simp only [ovB, Bool.and_eq_true, decide_eq_true_eq] at h
  obtain ⟨⟨⟨ha, hb⟩, h0⟩, h1⟩ := h
  have ha := isD_iff.1 ha
  exact ⟨⟨Int.ediv_nonneg ha.2.1 (Int.le_of_lt h0), by have := Int.ediv_le_self (vl b) ha.2.1; omega⟩, ⟨Int.emod_nonneg _ (by omega), Int.emod_lt_of_pos _ h0⟩, h1, hb⟩
theorem sm_le {n : Int} : (bif smB n then n else 0) ≤ 1152921504606846975 := by
  unfold smB
  by_cases h : n < 1152921504606846976
  · rw [decide_eq_true h]; simp only [cond_true]; omega
  · rw [decide_eq_false h]; simp
theorem sm_nn {n : Int} (h : 0 ≤ n) : 0 ≤ (bif smB n then n else 0) := by cases smB n <;> simp <;> omega
theorem rdOut_eq {α : Type} {n : Int} (m s : Bool) (h : 0 ≤ n ∧ n ≤ 1152921504606846976) (k : AOut → Option α) : rdOut m n s k = k (.ret (.tup [iN (sg m n), bN s])) := by
  unfold rdOut sg
  cases m
  · rfl
  · rw [cond_true, cond_true, w64 _ (by omega), Int.zero_sub]
theorem rd_fin {α : Type} {a b : List Int} (h : ovB a b = true) (m : Bool) (how : Int) (k : AOut → Option α) (c : Bool) (hc : 0 < vl a % vl b → up1 how m (vl a % vl b) (vl b) = c) :
    rdText (bif c then rdMore a b m k else rdLess a b m k) a b = k (.ret (.tup [iN (rdN a b m how), bN (smB (vl a / vl b))])) := by
  have O := ov_is h
  have v := vl_dg _ O.q.1
  have s1 := sm_le (n := vl a / vl b)
  have s0 := sm_nn O.q.1
  unfold rdText rdMore rdLess rdN rdQ
  rw [h, isD_dg O.q, v, cond_true, cond_true]
  by_cases hr : 0 < vl a % vl b
  · have hlen : 0 < (dg (vl a % vl b)).length := List.length_pos_iff.2 fun e => by have := (dg_nil O.r.1).1 e; omega
    rw [hc hr, decide_eq_true (show ((dg (vl a % vl b)).length : Int) > 0 by omega), cond_true]
    cases c
    · rw [cond_false, cond_false, rdOut_eq _ _ (by omega), Int.add_zero]
    · rw [cond_true, cond_true, w64 _ (by omega), rdOut_eq _ _ (by omega)]
  · have hz : vl a % vl b = 0 := by have := O.r.1; omega
    have hu : up1 how m (vl a % vl b) (vl b) = false := by unfold up1; rw [decide_eq_false hr]; rfl
    rw [hu, hz, dg_zero, cond_false, Int.add_zero]
    have hd : decide (((List.length ([] : List Int) : Nat) : Int) > 0) = false := rfl
    rw [hd, cond_false, rdOut_eq _ _ (by omega)]
    cases c <;> rfl
theorem round_plain {α : Type} (N n0 : Nat) {a b : List Int} (h : ovB a b = true) (m : Bool) {how : Int} (hw : wayB how = true) (k : AOut → Option α) : evFn real tab ((twT fnC (fun _ => none)).env real tab N n0) N Tryz.f142 α [lN a, lN b, .bool m, iN how] k = k (.ret (.tup [iN (rdN a b m how), bN (smB (vl a / vl b))])) := by
  have O := ov_is h
  rcases way_cases hw with rfl | rfl | rfl | rfl
  · exact (round0_text N n0 α a b m k).trans (rd_fin h m 0 k false fun hr => by unfold up1; rw [decide_eq_true hr]; rfl)
  · exact (round1_text N n0 α a b m k).trans (rd_fin h m 1 k m fun hr => by unfold up1; rw [decide_eq_true hr]; rfl)
  · exact (round2_text N n0 α a b m k).trans (rd_fin h m 2 k (!m) fun hr => by unfold up1; rw [decide_eq_true hr]; rfl)
  · refine (round3_text N n0 α a b m k).trans (Eq.trans ?_ (rd_fin h m 3 k (decide (vl b ≤ vl a % vl b + vl a % vl b)) fun hr => by unfold up1; rw [decide_eq_true hr]; rfl))
    have r0 := O.r
    have b0 := O.bb
    congr 1
    rw [isD_dg ⟨r0.1, by omega⟩, vl_dg _ r0.1, isD_dg ⟨by omega, by omega⟩, vl_dg _ (by omega), O.db]
    simp only [Bool.and_self, cond_true]
    rw [decide_eq_decide.2 cmp3_ge]
theorem roundS_ok : FspOk Tryz.prog 142 roundS := tower_S fnC_ok sp_nil ⟨Tryz.func142, fun _ _ => by kernel_rfl⟩ (by intro α args k; unfold roundS; split <;> simp only [cond_bind, Option.bind_some, Option.bind_none]) fun args out hs h => by
  unfold roundS at h
  split at h
  · rename_i a b m how
    cases hb : ovB a b && wayB how
    · rw [hb] at h; cases h
    · rw [hb] at h
      rw [Bool.and_eq_true] at hb
      exact ⟨1, 0, (round_plain 1 0 hb.1 m hb.2 some).trans h⟩
  · cases h
def fnD : FuncId → Option Fsp := fun g =>
  if g = 140 then some rsizeS else
  if g = 142 then some roundS else
  fnC g
theorem fnD_ok : FsOk fnD :=
  fs_cons rsizeS_ok <|
  fs_cons roundS_ok <|
  fnC_ok
end Go.Proofs.YtgpljldfbhkdlaaGreat

/- The reference's layer 1: valid numbers, squares, shares, numbers with a sign. -/
namespace Go.Proofs.YtgpljldfbhkdlaaGreat
open Go.RowKit

def rvalidS : Fsp := fun _ args k => match args with
  | [.int .i64 x] => k (b1 (okB x))
  | _ => none
theorem rvalid_text (N n0 : Nat) (α : Type) (x : Int) (k : AOut → Option α) : evFn real tab ((twT fnD (fun _ => none)).env real tab N n0) N Tryz.f136 α [iN x] k = bif decide (x ≥ -70368744177664) then k (b1 (decide (x ≤ 70368744177664))) else k (b1 false) := by kernel_rfl
theorem rvalidS_ok : FspOk Tryz.prog 136 rvalidS := tower_S fnD_ok sp_nil ⟨Tryz.func136, fun _ _ => by kernel_rfl⟩ (by intro α args k; unfold rvalidS; split <;> rfl) fun args out hs h => by
  unfold rvalidS at h
  split at h
  · rename_i x
    refine ⟨1, 0, (rvalid_text 1 0 AOut x some).trans (Eq.trans ?_ h)⟩
    have : okB x = (decide (x ≥ -70368744177664) && decide (x ≤ 70368744177664)) := rfl
    rw [this]
    cases decide (x ≥ -70368744177664) <;> rfl
  · cases h
def rwayS : Fsp := fun _ args k => match args with
  | [.int .i64 x] => k (b1 (wayB x))
  | _ => none
theorem rway_text (N n0 : Nat) (α : Type) (x : Int) (k : AOut → Option α) : evFn real tab ((twT fnD (fun _ => none)).env real tab N (n0 + 1)) N Tryz.f137 α [iN x] k = bif decide (0 ≤ x) then k (b1 (decide (x ≤ 3))) else k (b1 false) := by kernel_rfl
theorem rwayS_ok : FspOk Tryz.prog 137 rwayS := tower_S fnD_ok sp_nil ⟨Tryz.func137, fun _ _ => by kernel_rfl⟩ (by intro α args k; unfold rwayS; split <;> rfl) fun args out hs h => by
  unfold rwayS at h
  split at h
  · rename_i x
    refine ⟨1, 1, (rway_text 1 0 AOut x some).trans (Eq.trans ?_ h)⟩
    unfold wayB
    cases decide (0 ≤ x) <;> rfl
  · cases h

def squareDS : Fsp := fun _ args k => match args with
  | [.agg [.int .i64 x, .int .i64 y]] => bif i7 x && i7 y then k (l1 (dg (sq2 x y))) else none
  | _ => none
theorem i7_D {x : Int} (h : i7 x = true) : isD (dg (ab x)) = true ∧ vl (dg (ab x)) = ab x ∧ (0 ≤ ab x * ab x ∧ ab x * ab x ≤ 85070591730234615847396907784232501249) := by
  have a := i7_ab h
  exact ⟨isD_dg ⟨a.1, by omega⟩, vl_dg _ a.1, sq_in' a.1 a.2⟩
where
  sq_in' {x B : Int} (h0 : 0 ≤ x) (h1 : x ≤ B) : 0 ≤ x * x ∧ x * x ≤ B * B := ⟨Int.mul_nonneg h0 h0, Int.mul_le_mul h1 h1 h0 (by omega)⟩
theorem squareD_text (N n0 : Nat) (α : Type) (x y : Int) (k : AOut → Option α) : evFn real tab ((twT fnD (fun _ => none)).env real tab N n0) N Tryz.f168 α [sN x y] k =
    bif i7 x then
      bif decide (0 ≤ ab x) && decide (ab x ≤ 9223372036854775807) then
        bif i7 y then
          bif decide (0 ≤ ab y) && decide (ab y ≤ 9223372036854775807) then
            bif isD (dg (ab x)) && isD (dg (ab x)) then
              bif isD (dg (ab y)) && isD (dg (ab y)) then
                bif isD (dg (vl (dg (ab x)) * vl (dg (ab x)))) && isD (dg (vl (dg (ab y)) * vl (dg (ab y)))) then
                  k (l1 (dg (vl (dg (vl (dg (ab x)) * vl (dg (ab x)))) + vl (dg (vl (dg (ab y)) * vl (dg (ab y)))))))
                else none
              else none
            else none
          else none
        else none
      else none
    else none := by kernel_rfl
theorem squareDS_ok : FspOk Tryz.prog 168 squareDS := tower_S fnD_ok sp_nil ⟨Tryz.func168, fun _ _ => by kernel_rfl⟩ (by intro α args k; unfold squareDS; split <;> simp only [cond_bind, Option.bind_some, Option.bind_none]) fun args out hs h => by
  unfold squareDS at h
  split at h
  · rename_i x y
    cases hb : i7 x && i7 y
    · rw [hb] at h; cases h
    · rw [hb, cond_true] at h
      rw [Bool.and_eq_true] at hb
      obtain ⟨hx, hy⟩ := hb
      refine ⟨1, 0, (squareD_text 1 0 AOut x y some).trans (Eq.trans ?_ h)⟩
      have a := i7_ab hx
      have b := i7_ab hy
      obtain ⟨x1, x2, x3⟩ := i7_D hx
      obtain ⟨y1, y2, y3⟩ := i7_D hy
      rw [hx, hy, decide_eq_true a.1, decide_eq_true a.2, decide_eq_true b.1, decide_eq_true b.2, x1, y1, x2, y2, isD_dg ⟨x3.1, by omega⟩, isD_dg ⟨y3.1, by omega⟩, vl_dg _ x3.1, vl_dg _ y3.1]
      rfl
  · cases h

/-! Shares. -/
def shD (x : Int) (s : List Int) : Bool := i7 x && isD s && (decide (0 < vl s) && decide (vl s < 1393796574908163946345982392040522594123776)) && decide (ab x * ab x ≤ vl s)
noncomputable def shareDS : Fsp := fun _ args k => match args with
  | [.int .i64 x, .ro (.int .i64) s] => bif shD x s then k (i1 (sg (ngB x) (shr (ab x) (vl s)))) else none
  | _ => none
section
variable {α : Type} (N : Nat) (X : Int) (a : List Int)
def shLoop (K : Int → Option α) : Option α :=
  afterL
    (iterL N
      (fun (y : Int × Int × Unit) =>
        bif decide (y.2.1 > 0) then
          bif decide (0 ≤ IntKind.i64.wrap (y.1 + y.2.1)) && decide (IntKind.i64.wrap (y.1 + y.2.1) ≤ 9223372036854775807) then
            bif isD (dg (IntKind.i64.wrap (y.1 + y.2.1))) && isD (dg (IntKind.i64.wrap (y.1 + y.2.1))) then
              bif isD (dg (vl (dg (IntKind.i64.wrap (y.1 + y.2.1))) * vl (dg (IntKind.i64.wrap (y.1 + y.2.1))))) && isD a then
                bif isD (dg (vl (dg (vl (dg (IntKind.i64.wrap (y.1 + y.2.1))) * vl (dg (IntKind.i64.wrap (y.1 + y.2.1))))) * vl a)) && isD (dg (vl (dg (vl (dg X) * vl (dg X))) * vl (dg (IntKind.i64.wrap (1 * 2 ^ min (Int.toNat 32) 64))))) then
                  bif decide (cmp3 (vl (dg (vl (dg (vl (dg (IntKind.i64.wrap (y.1 + y.2.1))) * vl (dg (IntKind.i64.wrap (y.1 + y.2.1))))) * vl a))) (vl (dg (vl (dg (vl (dg X) * vl (dg X))) * vl (dg (IntKind.i64.wrap (1 * 2 ^ min (Int.toNat 32) 64)))))) ≤ 0) then
                    some (LRes.cont (IntKind.i64.wrap (y.1 + y.2.1), IntKind.i64.wrap (y.2.1.tdiv 2), ()))
                  else some (LRes.cont (y.1, IntKind.i64.wrap (y.2.1.tdiv 2), ()))
                else none
              else none
            else none
          else none
        else some (LRes.brk 0 (y.1, y.2.1, ())))
      (0, 65536, ()))
    fun id y => if id = 0 then K y.1 else none
end
theorem shareD_text (N n0 : Nat) (α : Type) (x : Int) (a : List Int) (k : AOut → Option α) : evFn real tab ((twT fnD (fun _ => none)).env real tab N (n0 + 1)) N Tryz.f169 α [iN x, lN a] k =
    bif i7 x then
      bif decide (0 ≤ ab x) && decide (ab x ≤ 9223372036854775807) then
        bif isD (dg (ab x)) && isD (dg (ab x)) then
          bif isD (dg (vl (dg (ab x)) * vl (dg (ab x)))) && isD (dg (IntKind.i64.wrap (1 * 2 ^ min (Int.toNat 32) 64))) then
            shLoop N (ab x) a fun y => bif decide (x < 0) then k (i1 (IntKind.i64.wrap (0 - y))) else k (i1 y)
          else none
        else none
      else none
    else none := by kernel_rfl
def shPn (X s : Int) (m : Nat) : Bool := decide ((m : Int) * m * s ≤ 4294967296 * (X * X))
theorem shr_bs (X s : Int) : shr X s = ((bs (shPn X s) 17 0 : Nat) : Int) := by rw [shr_C]; rfl
theorem shLoop_plain {α : Type} {X : Int} {a : List Int} (hX : 0 ≤ X ∧ X ≤ 9223372036854775807) (ha : isD a = true) (h0 : 0 < vl a) (h1 : vl a < 1393796574908163946345982392040522594123776) (h2 : X * X ≤ vl a) (K : Int → Option α) :
    shLoop 30 X a K = K (shr X (vl a)) ∧ 0 ≤ shr X (vl a) ∧ shr X (vl a) ≤ 131072 := by
  have sX : 0 ≤ X * X ∧ X * X ≤ 85070591730234615847396907784232501249 := i7_D.sq_in' hX.1 hX.2
  have two : IntKind.i64.wrap (1 * 2 ^ min (Int.toNat 32) 64) = 4294967296 := by decide
  have hbs := bs_spec (shPn X (vl a)) (fun m n hnm hm => by
      simp only [shPn, decide_eq_true_eq] at hm ⊢
      have : (n : Int) * n ≤ m * m := Int.mul_le_mul (by omega) (by omega) (by omega) (by omega)
      have := Int.mul_le_mul_of_nonneg_right this (Int.le_of_lt h0)
      omega) 17 0 (by
      simp only [shPn, decide_eq_true_eq]
      have : ((0 : Nat) : Int) * ((0 : Nat) : Int) * vl a = 0 := by simp
      omega) (by
      simp only [shPn, decide_eq_false_iff_not, Int.not_le]
      have e : (((0 + 2 ^ 17 : Nat)) : Int) = 131072 := by decide
      rw [e]
      omega)
  refine ⟨?_, by rw [shr_bs]; omega, by rw [shr_bs]; have : (2 : Nat) ^ 17 = 131072 := rfl; omega⟩
  unfold shLoop
  generalize hf : (fun y : Int × Int × Unit => (_ : Option (LRes (Int × Int × Unit) α))) = f
  have e := bit_searchK (f := f) 0 (shPn X (vl a)) 17 (fun n k a1 a2 a3 => ?_) (fun n => ?_) 17 0 rfl (by omega) (by
      simp only [shPn, decide_eq_true_eq]
      have : ((0 : Nat) : Int) * ((0 : Nat) : Int) * vl a = 0 := by simp
      omega) 30 (by omega)
  · have e' : iterL 30 f (0, 65536, ()) = some (.brk 0 (((bs (shPn X (vl a)) 17 0 : Nat) : Int), 0, ())) := e
    rw [e', shr_bs]
    rfl
  · rw [← hf]
    have p17 : (2 : Nat) ^ 17 = 131072 := rfl
    have hk : 2 ^ (k + 1) = 2 ^ k + 2 ^ k := by rw [Nat.pow_succ]; omega
    have hpos : 0 < 2 ^ k := Nat.two_pow_pos k
    have hw : IntKind.i64.wrap ((n : Int) + ((2 ^ k : Nat) : Int)) = ((n + 2 ^ k : Nat) : Int) := by rw [w64 _ (by omega)]; omega
    have hsh : IntKind.i64.wrap ((((2 ^ k : Nat) : Int)).tdiv 2) = ((2 ^ k / 2 : Nat) : Int) := by
      rw [Int.tdiv_eq_ediv_of_nonneg (by omega), w64 _ (by omega)]; omega
    have hm : (0 : Int) ≤ ((n + 2 ^ k : Nat) : Int) ∧ ((n + 2 ^ k : Nat) : Int) ≤ 131072 := by omega
    have hp : shPn X (vl a) (n + 2 ^ k) = decide (((n + 2 ^ k : Nat) : Int) * ((n + 2 ^ k : Nat) : Int) * vl a ≤ 4294967296 * (X * X)) := rfl
    have m2 := i7_D.sq_in' hm.1 hm.2
    have hpos2 : ((2 ^ k : Nat) : Int) > 0 := by omega
    dsimp only
    rw [decide_eq_true hpos2, hw, hsh, hp]
    generalize hme : ((n + 2 ^ k : Nat) : Int) = m at *
    have m3 : 0 ≤ m * m * vl a := Int.mul_nonneg m2.1 (by omega)
    have m4 : m * m * vl a ≤ 17179869184 * 1393796574908163946345982392040522594123776 := Int.mul_le_mul m2.2 (by omega) (by omega) (by omega)
    rw [decide_eq_true hm.1, decide_eq_true (show m ≤ 9223372036854775807 by omega), isD_dg (n := m) ⟨hm.1, by omega⟩, vl_dg _ hm.1, isD_dg (n := m * m) ⟨m2.1, by omega⟩, vl_dg _ m2.1, ha, isD_dg (n := m * m * vl a) ⟨m3, by omega⟩, vl_dg _ m3, two, vl_dg X hX.1, vl_dg _ sX.1, vl_dg 4294967296 (by omega), isD_dg (n := X * X * 4294967296) ⟨by omega, by omega⟩, vl_dg _ (show 0 ≤ X * X * 4294967296 by omega)]
    simp only [Bool.and_self, cond_true]
    by_cases hq : m * m * vl a ≤ 4294967296 * (X * X)
    · rw [decide_eq_true (cmp3_le0.2 (show m * m * vl a ≤ X * X * 4294967296 by omega)), decide_eq_true hq]
      simp only [cond_true]
      rw [← hme]
    · rw [decide_eq_false (fun c => hq (by have := cmp3_le0.1 c; omega)), decide_eq_false hq]
      rfl
  · rw [← hf]
    rfl

theorem shareDS_ok : FspOk Tryz.prog 169 shareDS := tower_S fnD_ok sp_nil ⟨Tryz.func169, fun _ _ => by kernel_rfl⟩ (by intro α args k; unfold shareDS; split <;> simp only [cond_bind, Option.bind_some, Option.bind_none]) fun args out hs h => by
  unfold shareDS at h
  split at h
  · rename_i x s
    cases hb : shD x s
    · rw [hb] at h; cases h
    · rw [hb, cond_true] at h
      simp only [shD, Bool.and_eq_true, decide_eq_true_eq] at hb
      obtain ⟨⟨⟨hx, hs'⟩, h0, h1⟩, h2⟩ := hb
      refine ⟨30, 1, (shareD_text 30 0 AOut x s some).trans (Eq.trans ?_ h)⟩
      have a := i7_ab hx
      obtain ⟨x1, x2, x3⟩ := i7_D hx
      have two : IntKind.i64.wrap (1 * 2 ^ min (Int.toNat 32) 64) = 4294967296 := by decide
      have L := fun K => shLoop_plain (α := AOut) a hs' h0 h1 h2 K
      rw [hx, decide_eq_true a.1, decide_eq_true a.2, x1, x2, isD_dg ⟨x3.1, by omega⟩, two, isD_dg (n := 4294967296) ⟨by omega, by omega⟩]
      simp only [Bool.and_self, cond_true]
      rw [(L _).1]
      have hr := (shLoop_plain (α := AOut) a hs' h0 h1 h2 fun _ => none).2
      unfold sg ngB
      cases decide (x < 0)
      · rfl
      · rw [cond_true, cond_true, w64 _ (by omega), Int.zero_sub]
  · cases h

/-! Numbers with a sign. -/
def rprodS : Fsp := fun _ args k => match args with
  | [.int .i64 a, .int .i64 b] => bif i7 a && i7 b then k (.ret (.agg [bN (xorB (ngB a) (ngB b)), lN (dg (ab a * ab b))])) else none
  | _ => none
theorem rprod_text (N n0 : Nat) (α : Type) (a b : Int) (k : AOut → Option α) : evFn real tab ((twT fnD (fun _ => none)).env real tab N (n0 + 1)) N Tryz.f204 α [iN a, iN b] k =
    bif i7 a then
      bif decide (0 ≤ ab a) && decide (ab a ≤ 9223372036854775807) then
        bif i7 b then
          bif decide (0 ≤ ab b) && decide (ab b ≤ 9223372036854775807) then
            bif isD (dg (ab a)) && isD (dg (ab b)) then
              k (.ret (.agg [bN (!(decide (a < 0) == decide (b < 0))), lN (dg (vl (dg (ab a)) * vl (dg (ab b))))]))
            else none
          else none
        else none
      else none
    else none := by kernel_rfl
theorem rprodS_ok : FspOk Tryz.prog 204 rprodS := tower_S fnD_ok sp_nil ⟨Tryz.func204, fun _ _ => by kernel_rfl⟩ (by intro α args k; unfold rprodS; split <;> simp only [cond_bind, Option.bind_some, Option.bind_none]) fun args out hs h => by
  unfold rprodS at h
  split at h
  · rename_i x y
    cases hb : i7 x && i7 y
    · rw [hb] at h; cases h
    · rw [hb, cond_true] at h
      rw [Bool.and_eq_true] at hb
      obtain ⟨hx, hy⟩ := hb
      refine ⟨1, 1, (rprod_text 1 0 AOut x y some).trans (Eq.trans ?_ h)⟩
      have a := i7_ab hx
      have b := i7_ab hy
      obtain ⟨x1, x2, x3⟩ := i7_D hx
      obtain ⟨y1, y2, y3⟩ := i7_D hy
      rw [hx, hy, decide_eq_true a.1, decide_eq_true a.2, decide_eq_true b.1, decide_eq_true b.2, x1, y1, x2, y2]
      rfl
  · cases h
end Go.Proofs.YtgpljldfbhkdlaaGreat
