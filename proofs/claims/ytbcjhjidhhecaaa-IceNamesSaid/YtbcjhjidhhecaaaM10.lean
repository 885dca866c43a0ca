/- Parts of the proof, in build order. -/
import Derived.Test.YtbcjhjidhhecaaaM9
/- Ice: the weight of a way. -/
namespace Go.Proofs.Ytbcjhjidhhecaaa
open Go.RowKit

/-- What is reckoned for a way along the sheet, piece by piece: m pieces are still to come, q is the next border. -/
def wSum (prt : Int → Int → Int) (brd : Nat → Int) (yt : Int) : Nat → Nat → Int → Int
  | 0, _, Y => prt Y yt
  | m + 1, q, Y => if brd q < yt then prt Y (brd q) + wSum prt brd yt m (q + 1) (brd q) else prt Y yt
/-- A border. -/
def brdK (cy sd : Int) (k : Nat) : Int := cy + k * sd
/-- How many borders are not above a place. -/
def brdQ (cy sd h y : Int) : Nat := if y < cy then 0 else min (h.toNat + 1) (((y - cy) / sd).toNat + 1)
theorem brd_next (cy sd : Int) (k : Nat) : brdK cy sd (k + 1) = brdK cy sd k + sd := by
  unfold brdK
  rw [Int.natCast_add, Int.add_mul]; omega
theorem brdQ_is {cy sd h y : Int} (hs : 1 ≤ sd) : brdQ cy sd h y ≤ h.toNat + 1 ∧ (∀ k, k < brdQ cy sd h y → brdK cy sd k ≤ y) ∧ (brdQ cy sd h y ≤ h.toNat → y < brdK cy sd (brdQ cy sd h y)) := by
  unfold brdQ brdK
  split
  · exact ⟨by omega, fun k hk => by omega, fun _ => by simp; omega⟩
  · have a := Int.ediv_nonneg (show 0 ≤ y - cy by omega) (show 0 ≤ sd by omega)
    have e1 := Int.emod_add_mul_ediv (y - cy) sd
    have e2 := Int.emod_nonneg (y - cy) (show sd ≠ 0 by omega)
    have e3 := Int.emod_lt_of_pos (y - cy) (show 0 < sd by omega)
    rw [Int.mul_comm] at e1
    refine ⟨by omega, fun k hk => ?_, fun hq => ?_⟩
    · have : (k : Int) * sd ≤ (y - cy) / sd * sd := Int.mul_le_mul_of_nonneg_right (by omega) (by omega)
      omega
    · have hq' : min (h.toNat + 1) (((y - cy) / sd).toNat + 1) = ((y - cy) / sd).toNat + 1 := by omega
      rw [hq']
      have : ((((y - cy) / sd).toNat + 1 : Nat) : Int) = (y - cy) / sd + 1 := by omega
      rw [this, Int.add_mul]; omega
/-- Products rounded up. -/
theorem mp_up {b d : Int} (hb : 0 ≤ b ∧ b ≤ 65536) (hd : 0 ≤ d ∧ d ≤ 13107200000) : mpV b d 2 = rnd 2 false (b * d) 65536 ∧ 0 ≤ rnd 2 false (b * d) 65536 ∧ rnd 2 false (b * d) 65536 ≤ d := by
  have hm := mul_in hb hd
  have hm2 : b * d ≤ 65536 * d := Int.mul_le_mul_of_nonneg_right hb.2 hd.1
  have hn := rnd_nn (how := 2) (neg := false) hm.1 (show (0 : Int) < 65536 by omega)
  have hu : rnd 2 false (b * d) 65536 = b * d / 65536 + (bif decide (0 < b * d % 65536) then 1 else 0) := by
    unfold rnd up1
    simp
  have hle : rnd 2 false (b * d) 65536 ≤ d := by
    rw [hu]
    by_cases h : 0 < b * d % 65536
    · rw [decide_eq_true h, cond_true]; omega
    · rw [decide_eq_false h, cond_false]; omega
  have hx : xorB (ngB b) (ngB d) = false := by rw [ng_pos hb.1, ng_pos hd.1]; rfl
  have hP : prP b d 2 = rnd 2 false (b * d) 65536 := by
    unfold prP
    rw [hx, ab_pos hb.1, ab_pos hd.1]
    exact rndP_small hm.1 (by omega) (by omega)
  refine ⟨?_, hn, hle⟩
  unfold mpV
  rw [ok_iff.2 (show -70368744177664 ≤ b ∧ b ≤ 70368744177664 by omega), ok_iff.2 (show -70368744177664 ≤ d ∧ d ≤ 70368744177664 by omega), hP, hx]
  unfold fxV
  rw [show fxB (rnd 2 false (b * d) 65536) = true by simp only [fxB, decide_eq_true_eq]; omega]
  rfl

section
variable {α : Type}
def wInF (h yt Y sd : Int) : Int × Int × Int × Unit → Option (LRes (Int × Int × Int × Unit) α) := fun z =>
  bif decide (z.2.1 ≤ h) then
    bif decide (z.2.2.1 ≤ Y) then some (LRes.cont (z.1, IntKind.i64.wrap (z.2.1 + 1), IntKind.i64.wrap (z.2.2.1 + sd), ()))
    else bif decide (z.2.2.1 < yt) then some (LRes.brk 2 (z.2.2.1, z.2.1, z.2.2.1, ())) else some (LRes.brk 2 (z.1, z.2.1, z.2.2.1, ()))
  else some (LRes.brk 2 (z.1, z.2.1, z.2.2.1, ()))
def wOutF (N : Nat) (dom : Int → Int → Bool) (slw : Int → Int → Int) (h yt sd : Int) : Int × Int × Int × Int × Int × Unit → Option (LRes (Int × Int × Int × Int × Int × Unit) α) := fun x =>
  bif decide (x.2.2.2.2.1 < yt) then
    afterL (iterL N (wInF h yt x.2.2.2.2.1 sd) (yt, x.1, x.2.1, ())) fun id y =>
      if id = 2 then
        bif dom x.2.2.2.1 x.2.2.2.2.1 then
          bif y.1 == yt then some (LRes.brk 0 (y.2.1, y.2.2.1, IntKind.i64.wrap (x.2.2.1 + mpV (slw x.2.2.2.1 x.2.2.2.2.1) (IntKind.i64.wrap (y.1 - x.2.2.2.2.1)) 2), x.2.2.2.1, y.1, ()))
          else some (LRes.cont (y.2.1, y.2.2.1, IntKind.i64.wrap (x.2.2.1 + mpV (slw x.2.2.2.1 x.2.2.2.2.1) (IntKind.i64.wrap (y.1 - x.2.2.2.2.1)) 2), x.2.2.2.1, y.1, ()))
        else none
      else none
  else some (LRes.brk 0 (x.1, x.2.1, x.2.2.1, x.2.2.2.1, x.2.2.2.2.1, ()))
end
--AT fsI6 spL
set_option maxRecDepth 100000 in
theorem iweight_text (N n0 : Nat) (α : Type) (cx cy sd w h : Int) (pb po : List Int) (fl ke sw be we : Int) (x y yt : Int) (k : AOut → Option α) : evFn real tab ((twT fsI6 spL).env real tab N (n0 + 8)) N Try.f15 α [.agg [.int .i64 cx, .int .i64 cy, .int .i64 sd, .int .i64 w, .int .i64 h, .ro (.int .i64) pb, .ro (.int .i64) po], .agg [.int .i64 fl, .int .i64 ke, .int .i64 sw, .int .i64 be, .int .i64 we], .agg [.int .i64 x, .int .i64 y], .int .i64 yt] k =
    bif er2 (iceB cx cy sd w h pb po) == 0 then bif er2 (graB fl ke sw be we) == 0 then bif !!([(x, y, ())].any offS) then k (i2 0 2)
    else bif decide (yt ≤ y) then k (i2 0 2) else bif decide (yt > 6553600000) then k (i2 0 2)
    else afterL (iterL N (wOutF N (fun x Y => iceB cx cy sd w h pb po && graB fl ke sw be we && plcB x Y) (slwV cx cy sd w h pb po fl ke sw be we) h yt sd) (0, cy, 0, x, y, ())) fun id z => if id = 0 then k (i2 (rootV (IntKind.i64.wrap (2 * z.2.2.1)) 2) (rootE (IntKind.i64.wrap (2 * z.2.2.1)) 2)) else none
    else k (i2 0 2) else k (i2 0 2) := by kernel_rfl
/-- What is reckoned of a piece. -/
def prtV (cx cy sd w h : Int) (pb po : List Int) (fl ke sw be we : Int) (x Y N : Int) : Int := rnd 2 false (slwV cx cy sd w h pb po fl ke sw be we x Y * (N - Y)) 65536
theorem slwV_in (cx cy sd w h : Int) (pb po : List Int) (fl ke sw be we : Int) (x Y : Int) : 0 ≤ slwV cx cy sd w h pb po fl ke sw be we x Y ∧ slwV cx cy sd w h pb po fl ke sw be we x Y ≤ 65536 := by
  unfold slwV
  cases hb : iceB cx cy sd w h pb po && graB fl ke sw be we && plcB x Y
  · simp
  · simp only [Bool.and_eq_true] at hb
    have g := gra_is _ _ _ _ _ hb.1.2
    have i := ice_is _ _ _ _ _ _ _ hb.1.1
    have := brk_in g (hgt_in i.pg cx cy sd w h x Y) (hgt_in i.og cx cy sd w h x Y)
    have := g.fl
    simp only [cond_true]; omega
theorem w_inner {α : Type} {h yt Y sd cy : Int} (hs : 1 ≤ sd ∧ sd ≤ 6553600000) (hc : -6553600000 ≤ cy ∧ cy ≤ 6553600000) (hh : 1 ≤ h ∧ h ≤ 256) (r q : Nat) (hrq : r ≤ q) (hq : q ≤ h.toNat + 1) (h1 : ∀ k, k < q → brdK cy sd k ≤ Y) (h2 : q ≤ h.toNat → Y < brdK cy sd q) (K : Nat → Int × Int × Int × Unit → Option (LRes (Int × Int × Int × Int × Int × Unit) α)) {N : Nat} (hN : 300 < N) :
    afterL (iterL N (wInF h yt Y sd) (yt, (r : Int), brdK cy sd r, ())) K = K 2 (if q ≤ h.toNat ∧ brdK cy sd q < yt then brdK cy sd q else yt, (q : Int), brdK cy sd q, ()) := by
  have bd : ∀ k : Nat, k ≤ 257 → -6553600000 ≤ brdK cy sd k ∧ brdK cy sd k ≤ 1700000000000 := fun k hk => by
    have := mul_in (a := (k : Int)) (b := sd) (A := 257) (B := 6553600000) ⟨by omega, by omega⟩ ⟨by omega, by omega⟩
    unfold brdK; omega
  refine count_loop (f := wInF h yt Y sd) (fun i : Nat => (yt, ((r + i : Nat) : Int), brdK cy sd (r + i), ())) (q - r) (fun i hi => ?_) ?_ (by omega)
  · unfold wInF
    simp only
    have b := bd (r + i) (by omega)
    rw [decide_eq_true (show ((r + i : Nat) : Int) ≤ h by omega), decide_eq_true (h1 (r + i) (by omega)), i64_in (((r + i : Nat) : Int) + 1) (by omega), i64_in (brdK cy sd (r + i) + sd) (by omega), ← brd_next]
    rfl
  · unfold wInF
    simp only
    rw [show r + (q - r) = q by omega]
    by_cases hqh : q ≤ h.toNat
    · rw [decide_eq_true (show (q : Int) ≤ h by omega), decide_eq_false (show ¬ brdK cy sd q ≤ Y by have := h2 hqh; omega)]
      simp only [cond_true, cond_false]
      by_cases hb : brdK cy sd q < yt
      · rw [decide_eq_true hb, if_pos ⟨hqh, hb⟩]; rfl
      · rw [decide_eq_false hb, if_neg (fun e => hb e.2)]; rfl
    · rw [decide_eq_false (show ¬ (q : Int) ≤ h by omega), if_neg (fun e => hqh e.1)]; rfl
theorem w_outer {α : Type} (cx cy sd w h : Int) (pb po : List Int) (fl ke sw be we : Int) (x yt : Int) (hI : iceB cx cy sd w h pb po = true) (hG : graB fl ke sw be we = true) (hx : -6553600000 ≤ x ∧ x ≤ 6553600000) (hyt : yt ≤ 6553600000) {N : Nat} (hN : 300 < N) (y0 : Int) (hy0 : -6553600000 ≤ y0) :
    ∀ (m r q : Nat) (Y sum : Int), m + q = h.toNat + 1 → r ≤ q → (∀ k, k < q → brdK cy sd k ≤ Y) → (q ≤ h.toNat → Y < brdK cy sd q) → y0 ≤ Y → Y < yt → 0 ≤ sum → sum ≤ Y - y0 → ∀ M, m < M →
      ∃ a b, iterL (α := α) M (wOutF N (fun x Y => iceB cx cy sd w h pb po && graB fl ke sw be we && plcB x Y) (slwV cx cy sd w h pb po fl ke sw be we) h yt sd) ((r : Int), brdK cy sd r, sum, x, Y, ()) = some (.brk 0 (a, b, sum + wSum (prtV cx cy sd w h pb po fl ke sw be we x) (brdK cy sd) yt m q Y, x, yt, ())) := by
  have g := ice_is _ _ _ _ _ _ _ hI
  have gs := g.fs; have gc := g.fc; have gh := g.fh
  have hp : ∀ Y N', Y ≤ N' → -6553600000 ≤ Y → N' ≤ 6553600000 → mpV (slwV cx cy sd w h pb po fl ke sw be we x Y) (IntKind.i64.wrap (N' - Y)) 2 = prtV cx cy sd w h pb po fl ke sw be we x Y N' ∧ 0 ≤ prtV cx cy sd w h pb po fl ke sw be we x Y N' ∧ prtV cx cy sd w h pb po fl ke sw be we x Y N' ≤ N' - Y := fun Y N' h1 h2 h3 => by
    rw [i64_in (N' - Y) (by omega)]
    exact mp_up (slwV_in cx cy sd w h pb po fl ke sw be we x Y) ⟨by omega, by omega⟩
  intro m
  induction m with
  | zero =>
    intro r q Y sum hm hrq h1 h2 hY hYt hs0 hs1 M hM
    obtain ⟨M, rfl⟩ : ∃ M', M = M' + 1 := ⟨M - 1, by omega⟩
    have hd : plcB x Y = true := plc_iff.2 ⟨hx, by omega, by omega⟩
    obtain ⟨p1, p2, p3⟩ := hp Y yt (by omega) (by omega) (by omega)
    refine ⟨(q : Int), brdK cy sd q, ?_⟩
    have e : wOutF (α := α) N (fun x Y => iceB cx cy sd w h pb po && graB fl ke sw be we && plcB x Y) (slwV cx cy sd w h pb po fl ke sw be we) h yt sd ((r : Int), brdK cy sd r, sum, x, Y, ()) = some (.brk 0 ((q : Int), brdK cy sd q, sum + prtV cx cy sd w h pb po fl ke sw be we x Y yt, x, yt, ())) := by
      unfold wOutF
      simp only
      rw [decide_eq_true hYt, cond_true, w_inner gs gc.2 gh r q hrq (by omega) h1 h2 _ hN, if_pos rfl, hI, hG, hd]
      rw [if_neg (show ¬ (q ≤ h.toNat ∧ brdK cy sd q < yt) by omega)]
      simp only [Bool.and_self, cond_true, BEq.rfl]
      rw [p1, i64_in _ (by omega)]
    simp only [iterL, e]
    rfl
  | succ m ih =>
    intro r q Y sum hm hrq h1 h2 hY hYt hs0 hs1 M hM
    obtain ⟨M, rfl⟩ : ∃ M', M = M' + 1 := ⟨M - 1, by omega⟩
    have hd : plcB x Y = true := plc_iff.2 ⟨hx, by omega, by omega⟩
    have hqh : q ≤ h.toNat := by omega
    have hYq := h2 hqh
    by_cases hb : brdK cy sd q < yt
    · obtain ⟨p1, p2, p3⟩ := hp Y (brdK cy sd q) (by omega) (by omega) (by omega)
      have hnx := brd_next cy sd q
      obtain ⟨a, b, e2⟩ := ih q (q + 1) (brdK cy sd q) (sum + prtV cx cy sd w h pb po fl ke sw be we x Y (brdK cy sd q)) (by omega) (by omega) (fun k hk => by
        rcases Nat.lt_or_ge k q with h | h
        · have := h1 k h; omega
        · have : k = q := by omega
          subst this; omega) (fun _ => by omega) (by omega) hb (by omega) (by omega) M (by omega)
      refine ⟨a, b, ?_⟩
      have e : wOutF (α := α) N (fun x Y => iceB cx cy sd w h pb po && graB fl ke sw be we && plcB x Y) (slwV cx cy sd w h pb po fl ke sw be we) h yt sd ((r : Int), brdK cy sd r, sum, x, Y, ()) = some (.cont ((q : Int), brdK cy sd q, sum + prtV cx cy sd w h pb po fl ke sw be we x Y (brdK cy sd q), x, brdK cy sd q, ())) := by
        unfold wOutF
        simp only
        rw [decide_eq_true hYt, cond_true, w_inner gs gc.2 gh r q hrq (by omega) h1 h2 _ hN, if_pos rfl, hI, hG, hd]
        rw [if_pos ⟨hqh, hb⟩, show (brdK cy sd q == yt) = false by simp; omega]
        simp only [Bool.and_self, cond_true, cond_false]
        rw [p1, i64_in _ (by omega)]
      simp only [iterL, e]
      rw [e2]
      simp only [wSum, if_pos hb]
      rw [Int.add_assoc]
    · obtain ⟨p1, p2, p3⟩ := hp Y yt (by omega) (by omega) (by omega)
      refine ⟨(q : Int), brdK cy sd q, ?_⟩
      have e : wOutF (α := α) N (fun x Y => iceB cx cy sd w h pb po && graB fl ke sw be we && plcB x Y) (slwV cx cy sd w h pb po fl ke sw be we) h yt sd ((r : Int), brdK cy sd r, sum, x, Y, ()) = some (.brk 0 ((q : Int), brdK cy sd q, sum + prtV cx cy sd w h pb po fl ke sw be we x Y yt, x, yt, ())) := by
        unfold wOutF
        simp only
        rw [decide_eq_true hYt, cond_true, w_inner gs gc.2 gh r q hrq (by omega) h1 h2 _ hN, if_pos rfl, hI, hG, hd]
        rw [if_neg (fun e => hb e.2)]
        simp only [Bool.and_self, cond_true, BEq.rfl]
        rw [p1, i64_in _ (by omega)]
      simp only [iterL, e, wSum, if_neg hb]
def wgtB (cx cy sd w h : Int) (pb po : List Int) (fl ke sw be we : Int) (x y yt : Int) : Bool := (iceB cx cy sd w h pb po && graB fl ke sw be we && plcB x y) && (decide (y < yt) && decide (yt ≤ 6553600000))
/-- What is reckoned for the whole way. -/
def wgtS (cx cy sd w h : Int) (pb po : List Int) (fl ke sw be we : Int) (x y yt : Int) : Int := wSum (prtV cx cy sd w h pb po fl ke sw be we x) (brdK cy sd) yt (h.toNat + 1 - brdQ cy sd h y) (brdQ cy sd h y) y
noncomputable def wgtV (cx cy sd w h : Int) (pb po : List Int) (fl ke sw be we : Int) (x y yt : Int) : Int := bif wgtB cx cy sd w h pb po fl ke sw be we x y yt then rootV (2 * wgtS cx cy sd w h pb po fl ke sw be we x y yt) 2 else 0
noncomputable def wgtE (cx cy sd w h : Int) (pb po : List Int) (fl ke sw be we : Int) (x y yt : Int) : Int := bif wgtB cx cy sd w h pb po fl ke sw be we x y yt then rootE (2 * wgtS cx cy sd w h pb po fl ke sw be we x y yt) 2 else 2
theorem wgtS_in (cx cy sd w h : Int) (pb po : List Int) (fl ke sw be we : Int) (x y yt : Int) (hb : wgtB cx cy sd w h pb po fl ke sw be we x y yt = true) : 0 ≤ wgtS cx cy sd w h pb po fl ke sw be we x y yt ∧ wgtS cx cy sd w h pb po fl ke sw be we x y yt ≤ yt - y := by
  simp only [wgtB, Bool.and_eq_true, decide_eq_true_eq, plc_iff] at hb
  obtain ⟨⟨⟨hI, hG⟩, hp⟩, hy, hyt⟩ := hb
  have g := ice_is _ _ _ _ _ _ _ hI
  have gs := g.fs
  obtain ⟨q1, q2, q3⟩ := brdQ_is (cy := cy) (h := h) (y := y) gs.1
  unfold wgtS
  have nx : ∀ k, brdQ cy sd h y ≤ k → brdK cy sd k ≤ brdK cy sd (k + 1) := fun k _ => by rw [brd_next]; omega
  generalize brdQ cy sd h y = q at *
  have step : ∀ (m q : Nat) (Y : Int), -6553600000 ≤ Y → Y ≤ yt → (m = 0 ∨ Y ≤ brdK cy sd q) → (∀ k, q ≤ k → brdK cy sd k ≤ brdK cy sd (k + 1)) → 0 ≤ wSum (prtV cx cy sd w h pb po fl ke sw be we x) (brdK cy sd) yt m q Y ∧ wSum (prtV cx cy sd w h pb po fl ke sw be we x) (brdK cy sd) yt m q Y ≤ yt - Y := by
    have hp' : ∀ Y N', -6553600000 ≤ Y → Y ≤ N' → N' ≤ 6553600000 → 0 ≤ prtV cx cy sd w h pb po fl ke sw be we x Y N' ∧ prtV cx cy sd w h pb po fl ke sw be we x Y N' ≤ N' - Y := fun Y N' h0 h1 h3 => (mp_up (slwV_in cx cy sd w h pb po fl ke sw be we x Y) ⟨by omega, by omega⟩).2
    intro m
    induction m with
    | zero => intro q Y h0 h1 _ _; exact hp' Y yt h0 h1 hyt
    | succ m ih =>
      intro q Y h0 h1 h2 h3
      simp only [wSum]
      split
      · have a := hp' Y (brdK cy sd q) h0 (by omega) (by omega)
        have b := ih (q + 1) (brdK cy sd q) (by omega) (by omega) (.inr (h3 q (Nat.le_refl _))) (fun k h => h3 k (by omega))
        omega
      · exact hp' Y yt h0 h1 hyt
  exact step _ q y hp.2.1 (by omega) (by
    rcases Nat.lt_or_ge h.toNat q with h | h
    · left; omega
    · right; have := q3 h; omega) nx
--FIN iweight | besom/ice.Weight | $ICB $GB (x y yt : Int) | $ICE, $GR, $S{x y}, $I{yt} | i2 (wgtV $ICV $GV x y yt) (wgtE $ICV $GV x y yt)
theorem iweight_fin (cx cy sd w h : Int) (pb po : List Int) (fl ke sw be we : Int) (x y yt : Int) (hs : ∀ qSm ∈ ([.agg [.int .i64 cx, .int .i64 cy, .int .i64 sd, .int .i64 w, .int .i64 h, .ro (.int .i64) pb, .ro (.int .i64) po], .agg [.int .i64 fl, .int .i64 ke, .int .i64 sw, .int .i64 be, .int .i64 we], .agg [.int .i64 x, .int .i64 y], .int .i64 yt] : List AVal), Sm qSm) : ∃ N n, ∀ α (k : AOut → Option α), evFn real tab ((twT fsI6 spL).env real tab N n) N Try.f15 α [.agg [.int .i64 cx, .int .i64 cy, .int .i64 sd, .int .i64 w, .int .i64 h, .ro (.int .i64) pb, .ro (.int .i64) po], .agg [.int .i64 fl, .int .i64 ke, .int .i64 sw, .int .i64 be, .int .i64 we], .agg [.int .i64 x, .int .i64 y], .int .i64 yt] k = k (i2 (wgtV cx cy sd w h pb po fl ke sw be we x y yt) (wgtE cx cy sd w h pb po fl ke sw be we x y yt)) := by
  refine ⟨301, 8, fun α k => (iweight_text 301 0 α cx cy sd w h pb po fl ke sw be we x y yt k).trans ?_⟩
  rw [er2_0, er2_0, any_off, gt_le yt 6553600000]
  have hyy : decide (yt ≤ y) = !decide (y < yt) := by
    by_cases h' : y < yt
    · rw [decide_eq_true h', decide_eq_false (by omega)]; rfl
    · rw [decide_eq_false h', decide_eq_true (by omega)]; rfl
  rw [hyy]
  have hS := wgtS_in cx cy sd w h pb po fl ke sw be we x y yt
  unfold wgtV wgtE
  cases hb : wgtB cx cy sd w h pb po fl ke sw be we x y yt
  · have hb' := hb
    unfold wgtB at hb'
    revert hb'
    cases iceB cx cy sd w h pb po <;> cases graB fl ke sw be we <;> cases plcB x y <;> cases decide (y < yt) <;> cases decide (yt ≤ 6553600000) <;> intro hb' <;> first | rfl | cases hb'
  · have hs := hS hb
    have hb' := hb
    simp only [wgtB, Bool.and_eq_true, decide_eq_true_eq, plc_iff] at hb'
    obtain ⟨⟨⟨hI, hG⟩, hp⟩, hy, hyt⟩ := hb'
    have g := ice_is _ _ _ _ _ _ _ hI
    obtain ⟨q1, q2, q3⟩ := brdQ_is (cy := cy) (h := h) (y := y) g.fs.1
    have gh := g.fh
    obtain ⟨a, b, e⟩ := w_outer (α := α) cx cy sd w h pb po fl ke sw be we x yt hI hG hp.1 hyt (N := 301) (by omega) y hp.2.1 (h.toNat + 1 - brdQ cy sd h y) 0 (brdQ cy sd h y) y 0 (by omega) (by omega) q2 q3 (Int.le_refl _) hy (Int.le_refl _) (by omega) 301 (by omega)
    have e0 : brdK cy sd 0 = cy := by unfold brdK; simp
    rw [e0] at e
    rw [hI, hG, (plc_iff (x := x) (y := y)).2 hp, decide_eq_true hy, decide_eq_true hyt]
    simp only [Bool.not_true, Bool.not_false, cond_true, cond_false]
    have e' : iterL (α := α) 301 (wOutF 301 (fun x Y => true && true && plcB x Y) (slwV cx cy sd w h pb po fl ke sw be we) h yt sd) (0, cy, 0, x, y, ()) = some (.brk 0 (a, b, 0 + wgtS cx cy sd w h pb po fl ke sw be we x y yt, x, yt, ())) := by
      have := e
      rw [hI, hG] at this
      exact this
    rw [e']
    simp only [afterL, if_pos]
    rw [Int.zero_add, i64_in (2 * wgtS cx cy sd w h pb po fl ke sw be we x y yt) (by omega)]
--CON iweight
noncomputable def iweightS : Fsp := fun _ args k => match args with
  | [.agg [.int .i64 cx, .int .i64 cy, .int .i64 sd, .int .i64 w, .int .i64 h, .ro (.int .i64) pb, .ro (.int .i64) po], .agg [.int .i64 fl, .int .i64 ke, .int .i64 sw, .int .i64 be, .int .i64 we], .agg [.int .i64 x, .int .i64 y], .int .i64 yt] => k (i2 (wgtV cx cy sd w h pb po fl ke sw be we x y yt) (wgtE cx cy sd w h pb po fl ke sw be we x y yt))
  | _ => none
theorem iweightS_ok : FspOk Try.prog 15 iweightS := tower_S fsI6_ok spL_ok ⟨Try.func15, fun _ _ => by kernel_rfl⟩ (by intro α args k; unfold iweightS; split <;> rfl) fun args out hSm hEq => by
  unfold iweightS at hEq
  split at hEq
  · rename_i cx cy sd w h pb po fl ke sw be we x y yt
    obtain ⟨N, n, e⟩ := iweight_fin cx cy sd w h pb po fl ke sw be we x y yt hSm
    exact ⟨N, n, (e AOut some).trans hEq⟩
  · cases hEq
--END
end Go.Proofs.Ytbcjhjidhhecaaa

/- IceNames: the examples of the chapter. -/
namespace Go.Proofs.Ytbcjhjidhhecaaa
open Go.RowKit

--FS fsIn | fsI11 | frootC=besom/fixed.Root;pond=besom/besomlaw03.pond;ialive=besom/besomlaw03.alive;iints=besom/besomref03.Ints
noncomputable def fsIn : FuncId → Option Fsp := fun g =>
  if g = 34 then some frootCS else
  if g = 25 then some pondS else
  if g = 9 then some ialiveS else
  if g = 14 then some iintsS else
  fsI11 g
theorem fsIn_ok : FsOk fsIn :=
  fs_cons frootCS_ok <|
  fs_cons pondS_ok <|
  fs_cons ialiveS_ok <|
  fs_cons iintsS_ok <|
  fsI11_ok
--END
--AT fsIn spL twY
set_option maxRecDepth 100000 in
theorem inames_text (α : Type) (k : AOut → Option α) : evFn real tab ((twY fsIn spL).env real tab 302 8) 302 Try.f8 α [] k = k (b1 true) := by kernel_rfl
def inamesF : List AVal → Option AOut
  | [] => some (b1 true)
  | _ => none
theorem inames_ok : FspOk Try.prog 8 (toFsp inamesF) := tower_Y fsIn_ok spL_ok ⟨Try.func8, fun _ _ => by kernel_rfl⟩ (toFsp_nat _) fun args out hSm hq => by
  replace hq := toFsp_some hq
  unfold inamesF at hq
  split at hq
  · cases hq
    exact ⟨302, 8, inames_text AOut some⟩
  · cases hq
end Go.Proofs.Ytbcjhjidhhecaaa
