/- Parts of the proof, in build order. -/
import Derived.Test.YtbcjhjidhhecaaaM7
/- Ice: the cell of a spot, the weight of a way. -/
namespace Go.Proofs.Ytbcjhjidhhecaaa
open Go.RowKit

--AT fsI5 spL
--TEXT iat | twT fsI5 spL | 8 | besom/ice.At | $ICB (x y : Int) | $ICE, $S{x y}
--KEY 952f72fe17
set_option maxRecDepth 100000 in
theorem iat_text (N n0 : Nat) (α : Type) (cx cy sd w h : Int) (pb po : List Int) (x y : Int) (k : AOut → Option α) : evFn real tab ((twT fsI5 spL).env real tab N (n0 + 8)) N Try.f13 α [.agg [.int .i64 cx, .int .i64 cy, .int .i64 sd, .int .i64 w, .int .i64 h, .ro (.int .i64) pb, .ro (.int .i64) po], .agg [.int .i64 x, .int .i64 y]] k =
  bif er2 (iceB cx cy sd w h pb po) != 0 then k (AOut.ret (AVal.tup [AVal.int IntKind.i64 0, AVal.int IntKind.i64 2]))
  else
    bif !![(x, y, ())].any offS then k (AOut.ret (AVal.tup [AVal.int IntKind.i64 0, AVal.int IntKind.i64 2]))
    else
      bif decide (IntKind.i64.wrap (x - cx) < 0) then
        k (AOut.ret (AVal.tup [AVal.int IntKind.i64 0, AVal.int IntKind.i64 7]))
      else
        bif decide (IntKind.i64.wrap (y - cy) < 0) then
          k (AOut.ret (AVal.tup [AVal.int IntKind.i64 0, AVal.int IntKind.i64 7]))
        else
          bif decide (IntKind.i64.wrap (x - cx) ≥ IntKind.i64.wrap (w * sd)) then
            k (AOut.ret (AVal.tup [AVal.int IntKind.i64 0, AVal.int IntKind.i64 7]))
          else
            bif decide (IntKind.i64.wrap (y - cy) ≥ IntKind.i64.wrap (h * sd)) then
              k (AOut.ret (AVal.tup [AVal.int IntKind.i64 0, AVal.int IntKind.i64 7]))
            else
              if sd = 0 then none
              else
                if sd = 0 then none
                else
                  k
                    (AOut.ret
                      (AVal.tup
                        [AVal.int IntKind.i64
                            (IntKind.i64.wrap
                              (IntKind.i64.wrap (IntKind.i64.wrap ((IntKind.i64.wrap (y - cy)).tdiv sd) * w) +
                                IntKind.i64.wrap ((IntKind.i64.wrap (x - cx)).tdiv sd))),
                          AVal.int IntKind.i64 0])) := by kernel_rfl
--END
--TEXT slw | twT fsI5 spL | 8 | besom/ice.slow | $ICB $GB (x y : Int) | $ICE, $GR, $S{x y}
--KEY cdaa8c3080
set_option maxRecDepth 100000 in
theorem slw_text (N n0 : Nat) (α : Type) (cx cy sd w h : Int) (pb po : List Int) (fl ke sw be we : Int) (x y : Int) (k : AOut → Option α) : evFn real tab ((twT fsI5 spL).env real tab N (n0 + 8)) N Try.f33 α [.agg [.int .i64 cx, .int .i64 cy, .int .i64 sd, .int .i64 w, .int .i64 h, .ro (.int .i64) pb, .ro (.int .i64) po], .agg [.int .i64 fl, .int .i64 ke, .int .i64 sw, .int .i64 be, .int .i64 we], .agg [.int .i64 x, .int .i64 y]] k =
  bif decide (IntKind.i64.wrap (x - cx) < 0) then
    k
      (AOut.ret
        (AVal.int IntKind.i64
          (slV (IntKind.i64.wrap (fl - slV (IntKind.i64.wrap (fl - ke)) 0 1000 3))
            (IntKind.i64.wrap (1000000 - IntKind.i64.wrap (sw * 0))) 1000000 3)))
  else
    bif decide (IntKind.i64.wrap (y - cy) < 0) then
      k
        (AOut.ret
          (AVal.int IntKind.i64
            (slV (IntKind.i64.wrap (fl - slV (IntKind.i64.wrap (fl - ke)) 0 1000 3))
              (IntKind.i64.wrap (1000000 - IntKind.i64.wrap (sw * 0))) 1000000 3)))
    else
      bif decide (IntKind.i64.wrap (x - cx) ≥ IntKind.i64.wrap (w * sd)) then
        k
          (AOut.ret
            (AVal.int IntKind.i64
              (slV (IntKind.i64.wrap (fl - slV (IntKind.i64.wrap (fl - ke)) 0 1000 3))
                (IntKind.i64.wrap (1000000 - IntKind.i64.wrap (sw * 0))) 1000000 3)))
      else
        bif decide (IntKind.i64.wrap (y - cy) ≥ IntKind.i64.wrap (h * sd)) then
          k
            (AOut.ret
              (AVal.int IntKind.i64
                (slV (IntKind.i64.wrap (fl - slV (IntKind.i64.wrap (fl - ke)) 0 1000 3))
                  (IntKind.i64.wrap (1000000 - IntKind.i64.wrap (sw * 0))) 1000000 3)))
        else
          if sd = 0 then none
          else
            if sd = 0 then none
            else
              if
                  0 ≤
                      IntKind.i64.wrap
                        (IntKind.i64.wrap (IntKind.i64.wrap ((IntKind.i64.wrap (y - cy)).tdiv sd) * w) +
                          IntKind.i64.wrap ((IntKind.i64.wrap (x - cx)).tdiv sd)) ∧
                    IntKind.i64.wrap
                        (IntKind.i64.wrap (IntKind.i64.wrap ((IntKind.i64.wrap (y - cy)).tdiv sd) * w) +
                          IntKind.i64.wrap ((IntKind.i64.wrap (x - cx)).tdiv sd)) <
                      (↑pb.length : Int) then
                if
                    0 ≤
                        IntKind.i64.wrap
                          (IntKind.i64.wrap (IntKind.i64.wrap ((IntKind.i64.wrap (y - cy)).tdiv sd) * w) +
                            IntKind.i64.wrap ((IntKind.i64.wrap (x - cx)).tdiv sd)) ∧
                      IntKind.i64.wrap
                          (IntKind.i64.wrap (IntKind.i64.wrap ((IntKind.i64.wrap (y - cy)).tdiv sd) * w) +
                            IntKind.i64.wrap ((IntKind.i64.wrap (x - cx)).tdiv sd)) <
                        (↑po.length : Int) then
                  k
                    (AOut.ret
                      (AVal.int IntKind.i64
                        (slV
                          (IntKind.i64.wrap
                            (fl -
                              slV (IntKind.i64.wrap (fl - ke))
                                (pb.getD
                                  (IntKind.i64.wrap
                                      (IntKind.i64.wrap (IntKind.i64.wrap ((IntKind.i64.wrap (y - cy)).tdiv sd) * w) +
                                        IntKind.i64.wrap ((IntKind.i64.wrap (x - cx)).tdiv sd))).toNat
                                  (Int.ofNat 0))
                                1000 3))
                          (IntKind.i64.wrap
                            (1000000 -
                              IntKind.i64.wrap
                                (sw *
                                  po.getD
                                    (IntKind.i64.wrap
                                        (IntKind.i64.wrap (IntKind.i64.wrap ((IntKind.i64.wrap (y - cy)).tdiv sd) * w) +
                                          IntKind.i64.wrap ((IntKind.i64.wrap (x - cx)).tdiv sd))).toNat
                                    (Int.ofNat 0))))
                          1000000 3)))
                else none
              else none := by kernel_rfl
--END
theorem celE_le (a : Int) : (a != 0) = !(a == 0) := rfl
--FIN slw | besom/ice.slow | $ICB $GB (x y : Int) | $ICE, $GR, $S{x y} | i1 (slwV $ICV $GV x y) | iceB $ICV && graB $GV && plcB x y
theorem slw_fin (cx cy sd w h : Int) (pb po : List Int) (fl ke sw be we : Int) (x y : Int) (hs : ∀ c ∈ ([.agg [.int .i64 cx, .int .i64 cy, .int .i64 sd, .int .i64 w, .int .i64 h, .ro (.int .i64) pb, .ro (.int .i64) po], .agg [.int .i64 fl, .int .i64 ke, .int .i64 sw, .int .i64 be, .int .i64 we], .agg [.int .i64 x, .int .i64 y]] : List AVal), Sm c) (hCo : (iceB cx cy sd w h pb po && graB fl ke sw be we && plcB x y) = true) : ∃ N n, ∀ α (k : AOut → Option α), evFn real tab ((twT fsI5 spL).env real tab N n) N Try.f33 α [.agg [.int .i64 cx, .int .i64 cy, .int .i64 sd, .int .i64 w, .int .i64 h, .ro (.int .i64) pb, .ro (.int .i64) po], .agg [.int .i64 fl, .int .i64 ke, .int .i64 sw, .int .i64 be, .int .i64 we], .agg [.int .i64 x, .int .i64 y]] k = k (i1 (slwV cx cy sd w h pb po fl ke sw be we x y)) := by
  have hb := hCo
  have hb' := hb
  simp only [Bool.and_eq_true] at hb'
  obtain ⟨⟨hi, hg⟩, hp⟩ := hb'
  have g := ice_is _ _ _ _ _ _ _ hi
  refine ⟨8, 8, fun α k => (slw_text 8 0 α cx cy sd w h pb po fl ke sw be we x y k).trans ?_⟩
  refine (g_fin cx cy sd w h pb po x y g hp fun p q => k (i1 (slV (IntKind.i64.wrap (fl - slV (IntKind.i64.wrap (fl - ke)) p 1000 3)) (IntKind.i64.wrap (1000000 - IntKind.i64.wrap (sw * q))) 1000000 3))).trans ?_
  rw [slw_pl (gra_is _ _ _ _ _ hg) (hgt_in g.pg ..) (hgt_in g.og ..)]
  unfold slwV
  rw [hb]
  rfl
--CON slw
noncomputable def slwS : Fsp := fun _ args k => match args with
  | [.agg [.int .i64 cx, .int .i64 cy, .int .i64 sd, .int .i64 w, .int .i64 h, .ro (.int .i64) pb, .ro (.int .i64) po], .agg [.int .i64 fl, .int .i64 ke, .int .i64 sw, .int .i64 be, .int .i64 we], .agg [.int .i64 x, .int .i64 y]] => bif iceB cx cy sd w h pb po && graB fl ke sw be we && plcB x y then k (i1 (slwV cx cy sd w h pb po fl ke sw be we x y)) else none
  | _ => none
theorem slwS_ok : FspOk Try.prog 33 slwS := tower_S fsI5_ok spL_ok ⟨Try.func33, fun _ _ => by kernel_rfl⟩ (by intro α args k; unfold slwS; split <;> simp only [cond_bind, Option.bind_some, Option.bind_none]) fun args out hSm hEq => by
  unfold slwS at hEq
  split at hEq
  · rename_i cx cy sd w h pb po fl ke sw be we x y
    cases hc : iceB cx cy sd w h pb po && graB fl ke sw be we && plcB x y
    · rw [hc] at hEq; cases hEq
    · rw [hc] at hEq
      obtain ⟨N, n, e⟩ := slw_fin cx cy sd w h pb po fl ke sw be we x y hSm hc
      exact ⟨N, n, (e AOut some).trans hEq⟩
  · cases hEq
--END
def atV (cx cy sd w h : Int) (pb po : List Int) (x y : Int) : Int := bif iceB cx cy sd w h pb po && plcB x y && inC cx cy sd w h x y then celC cx cy sd w x y else 0
def atE (cx cy sd w h : Int) (pb po : List Int) (x y : Int) : Int := bif iceB cx cy sd w h pb po && plcB x y then (bif inC cx cy sd w h x y then 0 else 7) else 2
--FIN iat | besom/ice.At | $ICB (x y : Int) | $ICE, $S{x y} | i2 (atV $ICV x y) (atE $ICV x y)
theorem iat_fin (cx cy sd w h : Int) (pb po : List Int) (x y : Int) (hs : ∀ c ∈ ([.agg [.int .i64 cx, .int .i64 cy, .int .i64 sd, .int .i64 w, .int .i64 h, .ro (.int .i64) pb, .ro (.int .i64) po], .agg [.int .i64 x, .int .i64 y]] : List AVal), Sm c) : ∃ N n, ∀ α (k : AOut → Option α), evFn real tab ((twT fsI5 spL).env real tab N n) N Try.f13 α [.agg [.int .i64 cx, .int .i64 cy, .int .i64 sd, .int .i64 w, .int .i64 h, .ro (.int .i64) pb, .ro (.int .i64) po], .agg [.int .i64 x, .int .i64 y]] k = k (i2 (atV cx cy sd w h pb po x y) (atE cx cy sd w h pb po x y)) := by
  refine ⟨8, 8, fun α k => (iat_text 8 0 α cx cy sd w h pb po x y k).trans ?_⟩
  rw [celE_le, er2_0, any_off]
  unfold atV atE
  cases hi : iceB cx cy sd w h pb po
  · rfl
  cases hp : plcB x y
  · rfl
  have g := ice_is _ _ _ _ _ _ _ hi
  rw [plc_iff] at hp
  have c := g.fc; have s := g.fs; have hw := g.fw; have hh := g.fh
  have m1 := mul_in (a := w) (b := sd) (A := 256) (B := 6553600000) ⟨by omega, by omega⟩ ⟨by omega, by omega⟩
  have m2 := mul_in (a := h) (b := sd) (A := 256) (B := 6553600000) ⟨by omega, by omega⟩ ⟨by omega, by omega⟩
  rw [i64_in (x - cx) (by omega), i64_in (y - cy) (by omega), i64_in (w * sd) (by omega), i64_in (h * sd) (by omega), le_sub0, le_sub0, ge_lt (x - cx) (w * sd), ge_lt (y - cy) (h * sd)]
  cases hi : inC cx cy sd w h x y
  · have hi' := hi
    unfold inC at hi'
    revert hi'
    cases decide (cx ≤ x) <;> cases decide (cy ≤ y) <;> cases decide (x - cx < w * sd) <;> cases decide (y - cy < h * sd) <;> intro hi' <;> first | rfl | cases hi'
  · obtain ⟨l0, l1, ⟨a0, a1⟩, b0, b1⟩ := cel_in s.1 hw.1 hi
    have hi' := hi
    simp only [inC, Bool.and_eq_true, decide_eq_true_eq] at hi'
    obtain ⟨⟨i1, i2⟩, i3, i4⟩ := hi'
    have mm := mul_in (a := (y - cy) / sd) (b := w) (A := 256) (B := 256) ⟨b0, by omega⟩ ⟨by omega, by omega⟩
    have e : IntKind.i64.wrap (IntKind.i64.wrap (IntKind.i64.wrap ((y - cy).tdiv sd) * w) + IntKind.i64.wrap ((x - cx).tdiv sd)) = celC cx cy sd w x y := by
      rw [tdiv_pos (by omega), tdiv_pos (by omega), i64_in ((y - cy) / sd) (by omega), i64_in ((x - cx) / sd) (by omega), i64_in ((y - cy) / sd * w) (by omega), i64_in _ (by omega)]
      rfl
    rw [decide_eq_true i1, decide_eq_true i2, decide_eq_true i3, decide_eq_true i4, e, if_neg (by omega), if_neg (by omega)]
    rfl
--CON iat
noncomputable def iatS : Fsp := fun _ args k => match args with
  | [.agg [.int .i64 cx, .int .i64 cy, .int .i64 sd, .int .i64 w, .int .i64 h, .ro (.int .i64) pb, .ro (.int .i64) po], .agg [.int .i64 x, .int .i64 y]] => k (i2 (atV cx cy sd w h pb po x y) (atE cx cy sd w h pb po x y))
  | _ => none
theorem iatS_ok : FspOk Try.prog 13 iatS := tower_S fsI5_ok spL_ok ⟨Try.func13, fun _ _ => by kernel_rfl⟩ (by intro α args k; unfold iatS; split <;> rfl) fun args out hSm hEq => by
  unfold iatS at hEq
  split at hEq
  · rename_i cx cy sd w h pb po x y
    obtain ⟨N, n, e⟩ := iat_fin cx cy sd w h pb po x y hSm
    exact ⟨N, n, (e AOut some).trans hEq⟩
  · cases hEq
--END
--TEXT crn | twT fsI5 spL | 8 | besom/ice.corners | $ICB (c : Int) | $ICE, $I{c}
--KEY 4329868a9b
set_option maxRecDepth 100000 in
theorem crn_text (N n0 : Nat) (α : Type) (cx cy sd w h : Int) (pb po : List Int) (c : Int) (k : AOut → Option α) : evFn real tab ((twT fsI5 spL).env real tab N (n0 + 8)) N Try.f76 α [.agg [.int .i64 cx, .int .i64 cy, .int .i64 sd, .int .i64 w, .int .i64 h, .ro (.int .i64) pb, .ro (.int .i64) po], .int .i64 c] k =
  if w = 0 then none
  else
    if w = 0 then none
    else
      k
        (AOut.ret
          (AVal.agg
            [AVal.int IntKind.i64 (IntKind.i64.wrap (cx + IntKind.i64.wrap (c.tmod w * sd))),
              AVal.int IntKind.i64 (IntKind.i64.wrap (cy + IntKind.i64.wrap (IntKind.i64.wrap (c.tdiv w) * sd))),
              AVal.int IntKind.i64 (IntKind.i64.wrap (IntKind.i64.wrap (cx + IntKind.i64.wrap (c.tmod w * sd)) + sd)),
              AVal.int IntKind.i64 (IntKind.i64.wrap (cy + IntKind.i64.wrap (IntKind.i64.wrap (c.tdiv w) * sd))),
              AVal.int IntKind.i64 (IntKind.i64.wrap (cx + IntKind.i64.wrap (c.tmod w * sd))),
              AVal.int IntKind.i64
                (IntKind.i64.wrap (IntKind.i64.wrap (cy + IntKind.i64.wrap (IntKind.i64.wrap (c.tdiv w) * sd)) + sd)),
              AVal.int IntKind.i64 (IntKind.i64.wrap (IntKind.i64.wrap (cx + IntKind.i64.wrap (c.tmod w * sd)) + sd)),
              AVal.int IntKind.i64
                (IntKind.i64.wrap (IntKind.i64.wrap (cy + IntKind.i64.wrap (IntKind.i64.wrap (c.tdiv w) * sd)) + sd))])) := by kernel_rfl
--END
--FS fsI6 | fsI5 | slw;iat
noncomputable def fsI6 : FuncId → Option Fsp := fun g =>
  if g = 33 then some slwS else
  if g = 13 then some iatS else
  fsI5 g
theorem fsI6_ok : FsOk fsI6 :=
  fs_cons slwS_ok <|
  fs_cons iatS_ok <|
  fsI5_ok
--END
--AT fsI6 spL
end Go.Proofs.Ytbcjhjidhhecaaa

/- Ice: does a way touch a cell? -/
namespace Go.Proofs.Ytbcjhjidhhecaaa
open Go.RowKit

/-! The corners of a cell, by the program's own wraps. -/
def lwX (cx sd w c : Int) : Int := IntKind.i64.wrap (cx + IntKind.i64.wrap (c.tmod w * sd))
def lwY (cy sd w c : Int) : Int := IntKind.i64.wrap (cy + IntKind.i64.wrap (IntKind.i64.wrap (c.tdiv w) * sd))
def hgX (cx sd w c : Int) : Int := IntKind.i64.wrap (lwX cx sd w c + sd)
def hgY (cy sd w c : Int) : Int := IntKind.i64.wrap (lwY cy sd w c + sd)
def up3 (s : Int × Int × Int) (q : Nat) (v : Int) : Int × Int × Int :=
  match q with
  | 0 => (v, s.2.1, s.2.2)
  | 1 => (s.1, v, s.2.2)
  | _ => (s.1, s.2.1, v)
def tchT (wx wy x y lx ly hx hy i : Int) : Int := trnV wx wy (miX ([lx, hx, lx, hx].getD i.toNat 0) ([ly, ly, hy, hy].getD i.toNat 0) x y) (miY ([lx, hx, lx, hx].getD i.toNat 0) ([ly, ly, hy, hy].getD i.toNat 0) x y)
def tchF {α : Type} (T : Int → Int) : Int × Int × Int × Int × Unit → Option (LRes (Int × Int × Int × Int × Unit) α) := fun z =>
  bif decide (z.1 < 4) then
    if 0 ≤ z.1 ∧ z.1 < ((4 : Nat) : Int) then
      idx3 (IntKind.i64.wrap (T z.1 + 1)) fun q1 => idx3 (IntKind.i64.wrap (T z.1 + 1)) fun q2 =>
        some (.cont (IntKind.i64.wrap (z.1 + 1), (up3 (z.2.1, z.2.2.1, z.2.2.2.1) q2 (IntKind.i64.wrap (at3 z.2.1 z.2.2.1 z.2.2.2.1 q1 + 1))).1, (up3 (z.2.1, z.2.2.1, z.2.2.2.1) q2 (IntKind.i64.wrap (at3 z.2.1 z.2.2.1 z.2.2.2.1 q1 + 1))).2.1, (up3 (z.2.1, z.2.2.1, z.2.2.2.1) q2 (IntKind.i64.wrap (at3 z.2.1 z.2.2.1 z.2.2.2.1 q1 + 1))).2.2, ()))
    else none
  else some (.brk 0 (z.1, z.2.1, z.2.2.1, z.2.2.2.1, ()))
def tchText {α : Type} (N : Nat) (x y u v wx wy lx ly hx hy : Int) (K : Bool → Option α) : Option α :=
  bif decide ((if x < u then u else x) < lx) then K false
  else bif decide ((if u < x then u else x) > hx) then K false
  else bif decide ((if y < v then v else y) < ly) then K false
  else bif decide ((if v < y then v else y) > hy) then K false
  else afterL (iterL N (tchF (tchT wx wy x y lx ly hx hy)) (0, 0, 0, 0, ())) fun id z => if id = 0 then (bif decide (z.2.1 < 4) then K (decide (z.2.2.2.1 < 4)) else K false) else none
set_option maxRecDepth 100000 in
theorem tch_text (N n0 : Nat) (α : Type) (cx cy sd w h : Int) (pb po : List Int) (x y u v c : Int) (k : AOut → Option α) : evFn real tab ((twT fsI6 spL).env real tab N (n0 + 8)) N Try.f59 α [.agg [.int .i64 cx, .int .i64 cy, .int .i64 sd, .int .i64 w, .int .i64 h, .ro (.int .i64) pb, .ro (.int .i64) po], .agg [.int .i64 x, .int .i64 y], .agg [.int .i64 u, .int .i64 v], .int .i64 c] k =
    if w = 0 then none else if w = 0 then none
    else tchText N x y u v (miX u v x y) (miY u v x y) (lwX cx sd w c) (lwY cy sd w c) (hgX cx sd w c) (hgY cy sd w c) fun b => k (b1 b) := by kernel_rfl

/-! What it comes to. -/
def cnT (T : Nat → Int) (v : Int) : Nat → Int
  | 0 => 0
  | i + 1 => cnT T v i + (if T i = v then 1 else 0)
theorem cnT_in (T : Nat → Int) (v : Int) : ∀ i : Nat, 0 ≤ cnT T v i ∧ cnT T v i ≤ i
  | 0 => by simp [cnT]
  | i + 1 => by
    have := cnT_in T v i
    simp only [cnT]
    split <;> omega
def mx (a b : Int) : Int := if a < b then b else a
def mn (a b : Int) : Int := if b < a then b else a
def cX (lx hx : Int) (i : Nat) : Int := [lx, hx, lx, hx].getD i 0
def cY (ly hy : Int) (i : Nat) : Int := [ly, ly, hy, hy].getD i 0
/-- On which side of a way is a corner? -/
def sid (x y u v lx ly hx hy : Int) (i : Nat) : Int := sgn3 ((u - x) * (cY ly hy i - y) - (v - y) * (cX lx hx i - x))
def touB (x y u v lx ly hx hy : Int) : Bool :=
  ((decide (lx ≤ mx x u) && decide (mn x u ≤ hx)) && (decide (ly ≤ mx y v) && decide (mn y v ≤ hy))) &&
  (decide (cnT (sid x y u v lx ly hx hy) (-1) 4 < 4) && decide (cnT (sid x y u v lx ly hx hy) 1 4 < 4))
/-- Does a way touch a cell? -/
def toB (cx cy sd w x y u v c : Int) : Bool := touB x y u v (cx + c % w * sd) (cy + c / w * sd) (cx + c % w * sd + sd) (cy + c / w * sd + sd)

theorem sgn3_in (a : Int) : sgn3 a = -1 ∨ sgn3 a = 0 ∨ sgn3 a = 1 := by
  unfold sgn3 cmp3
  split
  · exact .inl rfl
  · split
    · exact .inr (.inr rfl)
    · exact .inr (.inl rfl)
theorem tch_step {α : Type} (T : Int → Int) (i : Nat) (hi : i < 4) (a b c : Int) (hT : T i = -1 ∨ T i = 0 ∨ T i = 1) (ha : 0 ≤ a ∧ a ≤ 10) (hb : 0 ≤ b ∧ b ≤ 10) (hc : 0 ≤ c ∧ c ≤ 10) :
    tchF (α := α) T ((i : Int), a, b, c, ()) = some (.cont (((i + 1 : Nat) : Int), a + (if T i = -1 then 1 else 0), b + (if T i = 0 then 1 else 0), c + (if T i = 1 then 1 else 0), ())) := by
  unfold tchF
  simp only
  rw [decide_eq_true (show (i : Int) < 4 by omega), cond_true, if_pos ⟨by omega, by omega⟩, i64_in ((i : Int) + 1) (by omega)]
  rcases hT with h | h | h <;> rw [h]
  · rw [show IntKind.i64.wrap (-1 + 1) = 0 from by rw [IntKind.wrap_i64]; rfl]
    show some (LRes.cont ((i : Int) + 1, IntKind.i64.wrap (a + 1), b, c, ())) = _
    rw [i64_in (a + 1) (by omega)]
    simp
  · rw [show IntKind.i64.wrap (0 + 1) = 1 from by rw [IntKind.wrap_i64]; rfl]
    show some (LRes.cont ((i : Int) + 1, a, IntKind.i64.wrap (b + 1), c, ())) = _
    rw [i64_in (b + 1) (by omega)]
    simp
  · rw [show IntKind.i64.wrap (1 + 1) = 2 from by rw [IntKind.wrap_i64]; rfl]
    show some (LRes.cont ((i : Int) + 1, a, b, IntKind.i64.wrap (c + 1), ())) = _
    rw [i64_in (c + 1) (by omega)]
    simp
theorem tch_loop {α : Type} (T : Int → Int) (hT : ∀ i : Nat, i < 4 → T i = -1 ∨ T i = 0 ∨ T i = 1) (K : Nat → Int × Int × Int × Int × Unit → Option α) {N : Nat} (hN : 4 < N) :
    afterL (iterL N (tchF T) (0, 0, 0, 0, ())) K = K 0 (4, cnT (fun i => T i) (-1) 4, cnT (fun i => T i) 0 4, cnT (fun i => T i) 1 4, ()) := by
  refine count_loop (f := tchF T) (fun i : Nat => ((i : Int), cnT (fun i => T i) (-1) i, cnT (fun i => T i) 0 i, cnT (fun i => T i) 1 i, ())) 4 (fun i hi => ?_) ?_ hN
  · have a := cnT_in (fun i => T i) (-1) i
    have b := cnT_in (fun i => T i) 0 i
    have c := cnT_in (fun i => T i) 1 i
    exact tch_step T i hi _ _ _ (hT i hi) (by omega) (by omega) (by omega)
  · rfl
/-- Where a cell lies. -/
theorem cell_at {cx cy sd w h c : Int} (hc : (-6553600000 ≤ cx ∧ cx ≤ 6553600000) ∧ -6553600000 ≤ cy ∧ cy ≤ 6553600000) (hs : 1 ≤ sd ∧ sd ≤ 6553600000) (hw : 1 ≤ w ∧ w ≤ 256) (hh : 1 ≤ h ∧ h ≤ 256) (h0 : 0 ≤ c) (h1 : c < w * h) :
    (0 ≤ c % w ∧ c % w < w) ∧ (0 ≤ c / w ∧ c / w < h) ∧ (0 ≤ c % w * sd ∧ c % w * sd ≤ 1671168000000) ∧ 0 ≤ c / w * sd ∧ c / w * sd ≤ 1671168000000 := by
  have a := Int.emod_nonneg c (show w ≠ 0 by omega)
  have b := Int.emod_lt_of_pos c (show 0 < w by omega)
  have d := Int.ediv_nonneg h0 (show 0 ≤ w by omega)
  have e := Int.ediv_lt_of_lt_mul (show 0 < w by omega) (show c < h * w by rw [Int.mul_comm]; exact h1)
  have f := mul_in (a := c % w) (b := sd) (A := 255) (B := 6553600000) ⟨a, by omega⟩ ⟨by omega, by omega⟩
  have g := mul_in (a := c / w) (b := sd) (A := 255) (B := 6553600000) ⟨d, by omega⟩ ⟨by omega, by omega⟩
  exact ⟨⟨a, b⟩, ⟨d, e⟩, ⟨f.1, by omega⟩, g.1, by omega⟩
theorem lw_eq {cx cy sd w h c : Int} (hc : (-6553600000 ≤ cx ∧ cx ≤ 6553600000) ∧ -6553600000 ≤ cy ∧ cy ≤ 6553600000) (hs : 1 ≤ sd ∧ sd ≤ 6553600000) (hw : 1 ≤ w ∧ w ≤ 256) (hh : 1 ≤ h ∧ h ≤ 256) (h0 : 0 ≤ c) (h1 : c < w * h) :
    lwX cx sd w c = cx + c % w * sd ∧ lwY cy sd w c = cy + c / w * sd ∧ hgX cx sd w c = cx + c % w * sd + sd ∧ hgY cy sd w c = cy + c / w * sd + sd := by
  obtain ⟨a, b, d, e⟩ := cell_at hc hs hw hh h0 h1
  have hX : lwX cx sd w c = cx + c % w * sd := by
    unfold lwX
    rw [Int.tmod_eq_emod_of_nonneg h0, i64_in (c % w * sd) (by omega), i64_in _ (by omega)]
  have hY : lwY cy sd w c = cy + c / w * sd := by
    unfold lwY
    rw [tdiv_pos h0, i64_in (c / w) (by omega), i64_in (c / w * sd) (by omega), i64_in _ (by omega)]
  refine ⟨hX, hY, ?_, ?_⟩
  · unfold hgX; rw [hX, i64_in _ (by omega)]
  · unfold hgY; rw [hY, i64_in _ (by omega)]
theorem two2_ok {p q : Int} (hp : -70368744177664 ≤ p ∧ p ≤ 70368744177664) (hq : -70368744177664 ≤ q ∧ q ≤ 70368744177664) : two2 p q true = (p, q, 0) := by
  unfold two2 fxB
  rw [decide_eq_true (ab_le.2 hp), decide_eq_true (ab_le.2 hq)]; rfl
theorem mi_ok {x y u v B : Int} (hx : -B ≤ x ∧ x ≤ B) (hy : -B ≤ y ∧ y ≤ B) (hu : -B ≤ u ∧ u ≤ B) (hv : -B ≤ v ∧ v ≤ B) (hB : B ≤ 35184372088832) : miX x y u v = x - u ∧ miY x y u v = y - v ∧ miE x y u v = 0 := by
  have h4 : four x y u v = true := by unfold four; rw [ok_iff.2 (by omega), ok_iff.2 (by omega), ok_iff.2 (by omega), ok_iff.2 (by omega)]; rfl
  unfold miX miY miE miP
  rw [h4, two2_ok (by omega) (by omega)]
  exact ⟨rfl, rfl, rfl⟩
theorem trn_ok {x y u v B : Int} (hx : -B ≤ x ∧ x ≤ B) (hy : -B ≤ y ∧ y ≤ B) (hu : -B ≤ u ∧ u ≤ B) (hv : -B ≤ v ∧ v ≤ B) (hB : B ≤ 70368744177664) : trnV x y u v = sgn3 (x * v - y * u) := by
  have h4 : four x y u v = true := by unfold four; rw [ok_iff.2 (by omega), ok_iff.2 (by omega), ok_iff.2 (by omega), ok_iff.2 (by omega)]; rfl
  unfold trnV; rw [h4]; rfl
theorem lt4 {i : Nat} (h : i < 4) : i = 0 ∨ i = 1 ∨ i = 2 ∨ i = 3 := by omega
theorem cXY_in {lx hx B : Int} (h1 : -B ≤ lx ∧ lx ≤ B) (h2 : -B ≤ hx ∧ hx ≤ B) {i : Nat} (hi : i < 4) : (-B ≤ cX lx hx i ∧ cX lx hx i ≤ B) ∧ -B ≤ cY lx hx i ∧ cY lx hx i ≤ B := by
  rcases lt4 hi with rfl | rfl | rfl | rfl
  · exact ⟨h1, h1⟩
  · exact ⟨h2, h1⟩
  · exact ⟨h1, h2⟩
  · exact ⟨h2, h2⟩
theorem tchT_eq {x y u v lx ly hx hy : Int} (hp : (-6553600000 ≤ x ∧ x ≤ 6553600000) ∧ -6553600000 ≤ y ∧ y ≤ 6553600000) (hq : (-6553600000 ≤ u ∧ u ≤ 6553600000) ∧ -6553600000 ≤ v ∧ v ≤ 6553600000)
    (h1 : -1684275200000 ≤ lx ∧ lx ≤ 1684275200000) (h2 : -1684275200000 ≤ ly ∧ ly ≤ 1684275200000) (h3 : -1684275200000 ≤ hx ∧ hx ≤ 1684275200000) (h4 : -1684275200000 ≤ hy ∧ hy ≤ 1684275200000) {i : Nat} (hi : i < 4) :
    tchT (miX u v x y) (miY u v x y) x y lx ly hx hy i = sid x y u v lx ly hx hy i := by
  obtain ⟨w1, w2, _⟩ := mi_ok (x := u) (y := v) (u := x) (v := y) (B := 6553600000) hq.1 hq.2 hp.1 hp.2 (by omega)
  have c1 := (cXY_in h1 h3 hi).1
  have c2 := (cXY_in h2 h4 hi).2
  obtain ⟨d1, d2, _⟩ := mi_ok (x := cX lx hx i) (y := cY ly hy i) (u := x) (v := y) (B := 1684275200000) c1 c2 (by omega) (by omega) (by omega)
  show trnV _ _ (miX (cX lx hx i) (cY ly hy i) x y) (miY (cX lx hx i) (cY ly hy i) x y) = _
  rw [w1, w2, d1, d2, trn_ok (B := 1690828800000) (by omega) (by omega) (by omega) (by omega) (by omega)]
  rfl
theorem cnT_congr {S T : Nat → Int} (v : Int) : ∀ n, (∀ i, i < n → S i = T i) → cnT S v n = cnT T v n
  | 0, _ => rfl
  | n + 1, h => by simp only [cnT, cnT_congr v n fun i hi => h i (by omega), h n (by omega)]
--AT fsI6 spL
--FIN tch | besom/ice.touches | $ICB (x y u v c : Int) | $ICE, $S{x y}, $S{u v}, $I{c} | b1 (toB cx cy sd w x y u v c) | iceB $ICV && (plcB x y && plcB u v) && (decide (0 ≤ c) && decide (c < w * h))
theorem tch_fin (cx cy sd w h : Int) (pb po : List Int) (x y u v c : Int) (hs : ∀ qSm ∈ ([.agg [.int .i64 cx, .int .i64 cy, .int .i64 sd, .int .i64 w, .int .i64 h, .ro (.int .i64) pb, .ro (.int .i64) po], .agg [.int .i64 x, .int .i64 y], .agg [.int .i64 u, .int .i64 v], .int .i64 c] : List AVal), Sm qSm) (hCo : (iceB cx cy sd w h pb po && (plcB x y && plcB u v) && (decide (0 ≤ c) && decide (c < w * h))) = true) : ∃ N n, ∀ α (k : AOut → Option α), evFn real tab ((twT fsI6 spL).env real tab N n) N Try.f59 α [.agg [.int .i64 cx, .int .i64 cy, .int .i64 sd, .int .i64 w, .int .i64 h, .ro (.int .i64) pb, .ro (.int .i64) po], .agg [.int .i64 x, .int .i64 y], .agg [.int .i64 u, .int .i64 v], .int .i64 c] k = k (b1 (toB cx cy sd w x y u v c)) := by
  simp only [Bool.and_eq_true, decide_eq_true_eq, plc_iff] at hCo
  obtain ⟨⟨hI, hp, hq⟩, c0, c1⟩ := hCo
  have g := ice_is _ _ _ _ _ _ _ hI
  have gc := g.fc; have gs := g.fs
  refine ⟨8, 8, fun α k => (tch_text 8 0 α cx cy sd w h pb po x y u v c k).trans ?_⟩
  obtain ⟨e1, e2, e3, e4⟩ := lw_eq g.fc g.fs g.fw g.fh c0 c1
  obtain ⟨_, _, b1', b2'⟩ := cell_at g.fc g.fs g.fw g.fh c0 c1
  have hw := g.fw
  rw [if_neg (by omega), if_neg (by omega), e1, e2, e3, e4]
  unfold toB
  have l1 : -1677721600000 ≤ cx + c % w * sd ∧ cx + c % w * sd ≤ 1677721600000 := by omega
  have l2 : -1677721600000 ≤ cy + c / w * sd ∧ cy + c / w * sd ≤ 1677721600000 := by omega
  clear e1 e2 e3 e4 b1' b2'
  generalize cx + c % w * sd = lx at *
  generalize cy + c / w * sd = ly at *
  have hT : ∀ i : Nat, i < 4 → tchT (miX u v x y) (miY u v x y) x y lx ly (lx + sd) (ly + sd) i = sid x y u v lx ly (lx + sd) (ly + sd) i := fun i hi => tchT_eq hp hq (by omega) (by omega) (by omega) (by omega) hi
  unfold tchText
  rw [tch_loop _ (fun i hi => by rw [hT i hi]; exact sgn3_in _) _ (by omega), cnT_congr (-1) 4 hT, cnT_congr 1 4 hT]
  unfold touB
  have f : ∀ a b : Int, decide (a < b) = !decide (b ≤ a) := fun a b => by
    by_cases h : b ≤ a
    · rw [decide_eq_true h, decide_eq_false (by omega)]; rfl
    · rw [decide_eq_false h, decide_eq_true (by omega)]; rfl
  show (bif decide (mx x u < lx) then k (b1 false) else bif decide (mn x u > lx + sd) then k (b1 false) else bif decide (mx y v < ly) then k (b1 false) else bif decide (mn y v > ly + sd) then k (b1 false) else _) = _
  rw [f (mx x u), gt_le, f (mx y v), gt_le]
  simp only [if_pos]
  cases decide (lx ≤ mx x u) <;> cases decide (mn x u ≤ lx + sd) <;> cases decide (ly ≤ mx y v) <;> cases decide (mn y v ≤ ly + sd) <;> cases decide (cnT (sid x y u v lx ly (lx + sd) (ly + sd)) (-1) 4 < 4) <;> rfl
--CON tch
noncomputable def tchS : Fsp := fun _ args k => match args with
  | [.agg [.int .i64 cx, .int .i64 cy, .int .i64 sd, .int .i64 w, .int .i64 h, .ro (.int .i64) pb, .ro (.int .i64) po], .agg [.int .i64 x, .int .i64 y], .agg [.int .i64 u, .int .i64 v], .int .i64 c] => bif iceB cx cy sd w h pb po && (plcB x y && plcB u v) && (decide (0 ≤ c) && decide (c < w * h)) then k (b1 (toB cx cy sd w x y u v c)) else none
  | _ => none
theorem tchS_ok : FspOk Try.prog 59 tchS := tower_S fsI6_ok spL_ok ⟨Try.func59, fun _ _ => by kernel_rfl⟩ (by intro α args k; unfold tchS; split <;> simp only [cond_bind, Option.bind_some, Option.bind_none]) fun args out hSm hEq => by
  unfold tchS at hEq
  split at hEq
  · rename_i cx cy sd w h pb po x y u v c
    cases hc : iceB cx cy sd w h pb po && (plcB x y && plcB u v) && (decide (0 ≤ c) && decide (c < w * h))
    · rw [hc] at hEq; cases hEq
    · rw [hc] at hEq
      obtain ⟨N, n, e⟩ := tch_fin cx cy sd w h pb po x y u v c hSm hc
      exact ⟨N, n, (e AOut some).trans hEq⟩
  · cases hEq
--END
--FS fsI7 | fsI6 | tch
noncomputable def fsI7 : FuncId → Option Fsp := fun g =>
  if g = 59 then some tchS else
  fsI6 g
theorem fsI7_ok : FsOk fsI7 :=
  fs_cons tchS_ok <|
  fsI6_ok
--END
end Go.Proofs.Ytbcjhjidhhecaaa

/- Ice: the cells that a way touches. -/
namespace Go.Proofs.Ytbcjhjidhhecaaa
open Go.RowKit

--AT fsI7 spL
--TEXT band | twT fsI7 spL | 8 | besom/ice.band | (co sd many a b : Int) | $I{co}, $I{sd}, $I{many}, $I{a}, $I{b}
--KEY 270e1e7021
set_option maxRecDepth 100000 in
theorem band_text (N n0 : Nat) (α : Type) (co sd many a b : Int) (k : AOut → Option α) : evFn real tab ((twT fsI7 spL).env real tab N (n0 + 8)) N Try.f58 α [.int .i64 co, .int .i64 sd, .int .i64 many, .int .i64 a, .int .i64 b] k =
  bif decide (IntKind.i64.wrap ((if a < b then b else a) - co) < 0) then
    k (AOut.ret (AVal.tup [AVal.int IntKind.i64 0, AVal.int IntKind.i64 (-1)]))
  else
    bif decide (IntKind.i64.wrap ((if b < a then b else a) - co) > IntKind.i64.wrap (many * sd)) then
      k (AOut.ret (AVal.tup [AVal.int IntKind.i64 0, AVal.int IntKind.i64 (-1)]))
    else
      if sd = 0 then none
      else
        if sd = 0 then none
        else
          k
            (AOut.ret
              (AVal.tup
                [AVal.int IntKind.i64
                    (if
                        0 <
                          IntKind.i64.wrap
                            (IntKind.i64.wrap ((IntKind.i64.wrap ((if b < a then b else a) - co)).tdiv sd) - 1) then
                      IntKind.i64.wrap (IntKind.i64.wrap ((IntKind.i64.wrap ((if b < a then b else a) - co)).tdiv sd) - 1)
                    else 0),
                  AVal.int IntKind.i64
                    (if
                        IntKind.i64.wrap ((IntKind.i64.wrap ((if a < b then b else a) - co)).tdiv sd) <
                          IntKind.i64.wrap (many - 1) then
                      IntKind.i64.wrap ((IntKind.i64.wrap ((if a < b then b else a) - co)).tdiv sd)
                    else IntKind.i64.wrap (many - 1))])) := by kernel_rfl
--END
def bdO (co sd many a b : Int) : Bool := decide (mx a b - co < 0) || decide (mn a b - co > many * sd)
def bdF (co sd many a b : Int) : Int := bif bdO co sd many a b then 0 else (if 0 < (mn a b - co).tdiv sd - 1 then (mn a b - co).tdiv sd - 1 else 0)
def bdT (co sd many a b : Int) : Int := bif bdO co sd many a b then -1 else (if (mx a b - co).tdiv sd < many - 1 then (mx a b - co).tdiv sd else many - 1)
def bdB (co sd many a b : Int) : Bool := (decide (-6553600000 ≤ co) && decide (co ≤ 6553600000)) && (decide (1 ≤ sd) && decide (sd ≤ 6553600000)) && (decide (1 ≤ many) && decide (many ≤ 256)) && (decide (-6553600000 ≤ a) && decide (a ≤ 6553600000)) && (decide (-6553600000 ≤ b) && decide (b ≤ 6553600000))
theorem mx_in {a b B : Int} (ha : -B ≤ a ∧ a ≤ B) (hb : -B ≤ b ∧ b ≤ B) : (-B ≤ mx a b ∧ mx a b ≤ B) ∧ -B ≤ mn a b ∧ mn a b ≤ B := by
  unfold mx mn
  constructor <;> split <;> omega
theorem tdiv_in {a sd B : Int} (ha : -B ≤ a ∧ a ≤ B) (hs : 1 ≤ sd) : -B ≤ a.tdiv sd ∧ a.tdiv sd ≤ B := by
  rcases Int.le_total 0 a with h | h
  · rw [Int.tdiv_eq_ediv_of_nonneg h]
    have a1 := Int.ediv_nonneg h (show 0 ≤ sd by omega)
    have a2 : a / sd ≤ a := Int.ediv_le_self sd h
    omega
  · have e : a.tdiv sd = -((-a) / sd) := by
      rw [← Int.tdiv_eq_ediv_of_nonneg (show 0 ≤ -a by omega), Int.neg_tdiv, Int.neg_neg]
    have a1 := Int.ediv_nonneg (show 0 ≤ -a by omega) (show 0 ≤ sd by omega)
    have a2 : (-a) / sd ≤ -a := Int.ediv_le_self sd (by omega)
    omega
--FIN band | besom/ice.band | (co sd many a b : Int) | $I{co}, $I{sd}, $I{many}, $I{a}, $I{b} | .ret (.tup [.int .i64 (bdF co sd many a b), .int .i64 (bdT co sd many a b)]) | bdB co sd many a b
theorem band_fin (co sd many a b : Int) (hs : ∀ qSm ∈ ([.int .i64 co, .int .i64 sd, .int .i64 many, .int .i64 a, .int .i64 b] : List AVal), Sm qSm) (hCo : (bdB co sd many a b) = true) : ∃ N n, ∀ α (k : AOut → Option α), evFn real tab ((twT fsI7 spL).env real tab N n) N Try.f58 α [.int .i64 co, .int .i64 sd, .int .i64 many, .int .i64 a, .int .i64 b] k = k (.ret (.tup [.int .i64 (bdF co sd many a b), .int .i64 (bdT co sd many a b)])) := by
  simp only [bdB, Bool.and_eq_true, decide_eq_true_eq] at hCo
  obtain ⟨⟨⟨⟨h1, h2⟩, h3⟩, h4⟩, h5⟩ := hCo
  refine ⟨8, 8, fun α k => (band_text 8 0 α co sd many a b k).trans ?_⟩
  obtain ⟨m1, m2⟩ := mx_in h4 h5
  have mm := mul_in (a := many) (b := sd) (A := 256) (B := 6553600000) ⟨by omega, by omega⟩ ⟨by omega, by omega⟩
  show (bif decide (IntKind.i64.wrap (mx a b - co) < 0) then k _ else bif decide (IntKind.i64.wrap (mn a b - co) > IntKind.i64.wrap (many * sd)) then k _ else if sd = 0 then none else if sd = 0 then none else k (.ret (.tup [.int .i64 (if 0 < IntKind.i64.wrap (IntKind.i64.wrap ((IntKind.i64.wrap (mn a b - co)).tdiv sd) - 1) then IntKind.i64.wrap (IntKind.i64.wrap ((IntKind.i64.wrap (mn a b - co)).tdiv sd) - 1) else 0), .int .i64 (if IntKind.i64.wrap ((IntKind.i64.wrap (mx a b - co)).tdiv sd) < IntKind.i64.wrap (many - 1) then IntKind.i64.wrap ((IntKind.i64.wrap (mx a b - co)).tdiv sd) else IntKind.i64.wrap (many - 1))]))) = _
  have q1 := tdiv_in (a := mn a b - co) (B := 13107200000) ⟨by omega, by omega⟩ h2.1
  have q2 := tdiv_in (a := mx a b - co) (B := 13107200000) ⟨by omega, by omega⟩ h2.1
  rw [i64_in (mx a b - co) (by omega), i64_in (mn a b - co) (by omega), i64_in (many * sd) (by omega), i64_in ((mn a b - co).tdiv sd) (by omega), i64_in ((mx a b - co).tdiv sd) (by omega), i64_in ((mn a b - co).tdiv sd - 1) (by omega), i64_in (many - 1) (by omega), if_neg (by omega), if_neg (by omega)]
  unfold bdF bdT bdO
  cases decide (mx a b - co < 0)
  · cases decide (mn a b - co > many * sd) <;> rfl
  · rfl
--CON band
noncomputable def bandS : Fsp := fun _ args k => match args with
  | [.int .i64 co, .int .i64 sd, .int .i64 many, .int .i64 a, .int .i64 b] => bif bdB co sd many a b then k (.ret (.tup [.int .i64 (bdF co sd many a b), .int .i64 (bdT co sd many a b)])) else none
  | _ => none
theorem bandS_ok : FspOk Try.prog 58 bandS := tower_S fsI7_ok spL_ok ⟨Try.func58, fun _ _ => by kernel_rfl⟩ (by intro α args k; unfold bandS; split <;> simp only [cond_bind, Option.bind_some, Option.bind_none]) fun args out hSm hEq => by
  unfold bandS at hEq
  split at hEq
  · rename_i co sd many a b
    cases hc : bdB co sd many a b
    · rw [hc] at hEq; cases hEq
    · rw [hc] at hEq
      obtain ⟨N, n, e⟩ := band_fin co sd many a b hSm hc
      exact ⟨N, n, (e AOut some).trans hEq⟩
  · cases hEq
--END
--FS fsI8 | fsI7 | band
noncomputable def fsI8 : FuncId → Option Fsp := fun g =>
  if g = 58 then some bandS else
  fsI7 g
theorem fsI8_ok : FsOk fsI8 :=
  fs_cons bandS_ok <|
  fsI7_ok
--END

/-! The cells that a way touches, in their order. -/
theorem bd_in {co sd many a b : Int} (hb : bdB co sd many a b = true) : 0 ≤ bdF co sd many a b ∧ bdF co sd many a b ≤ bdT co sd many a b + 1 ∧ bdT co sd many a b < many := by
  simp only [bdB, Bool.and_eq_true, decide_eq_true_eq] at hb
  obtain ⟨⟨⟨⟨h1, h2⟩, h3⟩, h4⟩, h5⟩ := hb
  unfold bdF bdT
  cases ho : bdO co sd many a b
  · unfold bdO at ho
    simp only [Bool.or_eq_false_iff, decide_eq_false_iff_not] at ho
    have hmm : mn a b ≤ mx a b := by unfold mn mx; split <;> split <;> omega
    simp only [cond_false]
    have t1 : (mx a b - co).tdiv sd = (mx a b - co) / sd := Int.tdiv_eq_ediv_of_nonneg (by omega)
    have t2 := Int.ediv_nonneg (show 0 ≤ mx a b - co by omega) (show 0 ≤ sd by omega)
    have t3 : (mn a b - co).tdiv sd ≤ (mx a b - co) / sd ∧ (mn a b - co).tdiv sd ≤ many := by
      rcases Int.le_total 0 (mn a b - co) with h | h
      · rw [Int.tdiv_eq_ediv_of_nonneg h]
        exact ⟨Int.ediv_le_ediv (by omega) (by omega), Int.ediv_le_of_le_mul (by omega) (by omega)⟩
      · have e : (mn a b - co).tdiv sd = -((-(mn a b - co)) / sd) := by
          rw [← Int.tdiv_eq_ediv_of_nonneg (show 0 ≤ -(mn a b - co) by omega), Int.neg_tdiv, Int.neg_neg]
        have := Int.ediv_nonneg (show 0 ≤ -(mn a b - co) by omega) (show 0 ≤ sd by omega)
        omega
    rw [t1]
    generalize (mx a b - co) / sd = A at *
    generalize (mn a b - co).tdiv sd = B at *
    refine ⟨?_, ?_, ?_⟩
    · split <;> omega
    · split <;> split <;> omega
    · split <;> omega
  · simp only [cond_true]
    omega
/-- Where a cell is touched, its column (or row) is within the band. -/
theorem bd_hit {co sd many a b p : Int} (hs : 1 ≤ sd) (h0 : 0 ≤ p) (h1 : p < many) (l1 : co + p * sd ≤ mx a b) (l2 : mn a b ≤ co + p * sd + sd) : bdF co sd many a b ≤ p ∧ p ≤ bdT co sd many a b := by
  have e0 : 0 ≤ p * sd := Int.mul_nonneg h0 (by omega)
  have e1 : (p + 1) * sd ≤ many * sd := Int.mul_le_mul_of_nonneg_right (by omega) (by omega)
  rw [Int.add_mul, Int.one_mul] at e1
  unfold bdF bdT
  have ho : bdO co sd many a b = false := by
    unfold bdO
    rw [decide_eq_false (by omega), decide_eq_false (by omega)]; rfl
  rw [ho]
  simp only [cond_false]
  have t1 : (mx a b - co).tdiv sd = (mx a b - co) / sd := Int.tdiv_eq_ediv_of_nonneg (by omega)
  have t2 : p ≤ (mx a b - co) / sd := Int.le_ediv_of_mul_le (by omega) (by omega)
  have t3 : (mn a b - co).tdiv sd ≤ p + 1 := by
    rcases Int.le_total 0 (mn a b - co) with h | h
    · rw [Int.tdiv_eq_ediv_of_nonneg h]
      refine Int.ediv_le_of_le_mul (by omega) ?_
      rw [Int.add_mul, Int.one_mul]; omega
    · have e : (mn a b - co).tdiv sd = -((-(mn a b - co)) / sd) := by
        rw [← Int.tdiv_eq_ediv_of_nonneg (show 0 ≤ -(mn a b - co) by omega), Int.neg_tdiv, Int.neg_neg]
      have := Int.ediv_nonneg (show 0 ≤ -(mn a b - co) by omega) (show 0 ≤ sd by omega)
      omega
  rw [t1]
  constructor
  · split <;> omega
  · split <;> omega

section
variable {τ α : Type}
/-- What is done with each cell for which something holds, in their order. -/
def foldC (hit : Nat → Bool) (upd : Nat → τ → τ) (t0 : τ) : Nat → τ
  | 0 => t0
  | n + 1 => bif hit n then upd n (foldC hit upd t0 n) else foldC hit upd t0 n
theorem foldC_skip (hit : Nat → Bool) (upd : Nat → τ → τ) (t0 : τ) (a : Nat) : ∀ n, (∀ i, a ≤ i → i < a + n → hit i = false) → foldC hit upd t0 (a + n) = foldC hit upd t0 a
  | 0, _ => rfl
  | n + 1, h => by
    show foldC hit upd t0 ((a + n) + 1) = _
    simp only [foldC]
    rw [h (a + n) (by omega) (by omega)]
    exact foldC_skip hit upd t0 a n fun i h1 h2 => h i h1 (by omega)

/-- The program's loops over the cells that a way touches; what is done with one is left open. -/
def touL (N : Nat) (bf bt cf ct w : Int) (dom hit : Int → Bool) (body : (β : Type) → Int → τ → (τ → Option β) → Option β) (t0 : τ) (K : τ → Option α) : Option α :=
  afterL
    (iterL N
      (fun z : Int × τ =>
        bif decide (z.1 ≤ bt) then
          afterL
            (iterL N
              (fun v : Int × τ =>
                bif decide (v.1 ≤ ct) then
                  bif dom (IntKind.i64.wrap (IntKind.i64.wrap (z.1 * w) + v.1)) then
                    bif hit (IntKind.i64.wrap (IntKind.i64.wrap (z.1 * w) + v.1)) then
                      body _ (IntKind.i64.wrap (IntKind.i64.wrap (z.1 * w) + v.1)) v.2 fun t => some (LRes.cont (IntKind.i64.wrap (v.1 + 1), t))
                    else some (LRes.cont (IntKind.i64.wrap (v.1 + 1), v.2))
                  else none
                else some (LRes.brk 2 (v.1, v.2)))
              (cf, z.2))
            fun id y => if id = 2 then some (LRes.cont (IntKind.i64.wrap (z.1 + 1), y.2)) else none
        else some (LRes.brk 0 (z.1, z.2)))
      (bf, t0))
    fun id y => if id = 0 then K y.2 else none
theorem touL_eq (W H : Nat) (hW : 1 ≤ W ∧ W ≤ 256) (hH : 1 ≤ H ∧ H ≤ 256) {bf bt cf ct : Int} (b0 : 0 ≤ bf) (b1 : bf ≤ bt + 1) (b2 : bt < H) (c0 : 0 ≤ cf) (c1 : cf ≤ ct + 1) (c2 : ct < W) {dom hit : Int → Bool}
    (hd : ∀ n : Nat, n < W * H → dom n = true) (hh : ∀ n : Nat, n < W * H → hit n = true → (cf ≤ ((n % W : Nat) : Int) ∧ ((n % W : Nat) : Int) ≤ ct) ∧ bf ≤ ((n / W : Nat) : Int) ∧ ((n / W : Nat) : Int) ≤ bt)
    (body : (β : Type) → Int → τ → (τ → Option β) → Option β) (upd : Nat → τ → τ) (t0 : τ)
    (hb : ∀ (β : Type) (n : Nat) (k : τ → Option β), n < W * H → hit n = true → body β n (foldC (fun n => hit n) upd t0 n) k = k (upd n (foldC (fun n => hit n) upd t0 n))) (K : τ → Option α) {N : Nat} (hN : 300 < N) :
    touL N bf bt cf ct W dom hit body t0 K = K (foldC (fun n => hit n) upd t0 (W * H)) := by
  let F := foldC (fun n : Nat => hit n) upd t0
  have hF1 : ∀ n : Nat, F (n + 1) = bif hit n then upd n (F n) else F n := fun n => rfl
  have skip : ∀ a b : Nat, a ≤ b → b ≤ W * H → (∀ i, a ≤ i → i < b → hit i = false) → F b = F a := fun a b hab _ h => by
    have := foldC_skip (fun n : Nat => hit n) upd t0 a (b - a) fun i h1 h2 => h i h1 (by omega)
    rwa [show a + (b - a) = b by omega] at this
  obtain ⟨B, rfl⟩ := Int.eq_ofNat_of_zero_le b0
  obtain ⟨C, rfl⟩ := Int.eq_ofNat_of_zero_le c0
  obtain ⟨D, hD⟩ := Int.eq_ofNat_of_zero_le (show 0 ≤ bt + 1 by omega)
  obtain ⟨E, hE⟩ := Int.eq_ofNat_of_zero_le (show 0 ≤ ct + 1 by omega)
  have nohit : ∀ n : Nat, n < W * H → (n % W < C ∨ E ≤ n % W ∨ n / W < B ∨ D ≤ n / W) → hit n = false := fun n hn h => by
    cases hq : hit n
    · rfl
    · have := hh n hn hq; omega
  have hWH : W * H ≤ 65536 := by
    have := Nat.mul_le_mul hW.2 hH.2; omega
  have row : ∀ y : Nat, y < H → (y + 1) * W ≤ W * H := fun y hy => by
    rw [Nat.mul_comm W H]; exact Nat.mul_le_mul_right W hy
  have dm : ∀ y i : Nat, i < W → (y * W + i) % W = i ∧ (y * W + i) / W = y := fun y i hi => by
    constructor
    · rw [Nat.mul_comm, Nat.mul_add_mod, Nat.mod_eq_of_lt hi]
    · rw [Nat.mul_comm, Nat.mul_add_div (by omega), Nat.div_eq_of_lt hi]; omega
  -- a row
  have inner : ∀ y : Nat, y < H → B ≤ y → y < D → ∀ (KK : Nat → Int × τ → Option (LRes (Int × τ) α)),
      afterL (iterL N (fun v : Int × τ =>
        bif decide (v.1 ≤ ct) then
          bif dom (IntKind.i64.wrap (IntKind.i64.wrap ((y : Int) * W) + v.1)) then
            bif hit (IntKind.i64.wrap (IntKind.i64.wrap ((y : Int) * W) + v.1)) then
              body _ (IntKind.i64.wrap (IntKind.i64.wrap ((y : Int) * W) + v.1)) v.2 fun t => some (LRes.cont (IntKind.i64.wrap (v.1 + 1), t))
            else some (LRes.cont (IntKind.i64.wrap (v.1 + 1), v.2))
          else none
        else some (LRes.brk 2 (v.1, v.2))) ((C : Int), F (y * W))) KK = KK 2 ((E : Int), F ((y + 1) * W)) := fun y hy hy1 hy2 KK => by
    have r1 := row y hy
    rw [Nat.add_mul, Nat.one_mul] at r1
    have s1 : F (y * W + C) = F (y * W) := skip _ _ (by omega) (by omega) fun i h1 h2 => nohit i (by omega) (.inl (by
      have := (dm y (i - y * W) (by omega)).1
      rw [show y * W + (i - y * W) = i by omega] at this; omega))
    have s2 : F ((y + 1) * W) = F (y * W + E) := skip _ _ (by rw [Nat.add_mul, Nat.one_mul]; omega) (row y hy) fun i h1 h2 => nohit i (by rw [Nat.add_mul, Nat.one_mul] at h2; omega) (.inr (.inl (by
      rw [Nat.add_mul, Nat.one_mul] at h2
      have := (dm y (i - y * W) (by omega)).1
      rw [show y * W + (i - y * W) = i by omega] at this; omega)))
    rw [← s1, s2]
    have key := count_loop (f := fun v : Int × τ =>
        bif decide (v.1 ≤ ct) then
          bif dom (IntKind.i64.wrap (IntKind.i64.wrap ((y : Int) * W) + v.1)) then
            bif hit (IntKind.i64.wrap (IntKind.i64.wrap ((y : Int) * W) + v.1)) then
              body _ (IntKind.i64.wrap (IntKind.i64.wrap ((y : Int) * W) + v.1)) v.2 fun t => some (LRes.cont (IntKind.i64.wrap (v.1 + 1), t))
            else some (LRes.cont (IntKind.i64.wrap (v.1 + 1), v.2))
          else none
        else some (LRes.brk 2 (v.1, v.2))) (K := KK) (fun i : Nat => (((C + i : Nat) : Int), F (y * W + C + i))) (E - C) (b := 2) (y := ((E : Int), F (y * W + E))) (fun i hi => ?_) ?_ (N := N) (by omega)
    · exact key
    · have e1 : IntKind.i64.wrap (IntKind.i64.wrap ((y : Int) * W) + ((C + i : Nat) : Int)) = ((y * W + C + i : Nat) : Int) := by
        have e0 : ((y : Int) * W) = ((y * W : Nat) : Int) := by simp
        rw [e0, i64_in ((y * W : Nat) : Int) (by omega), i64_in _ (by omega)]; omega
      have e2 : IntKind.i64.wrap (((C + i : Nat) : Int) + 1) = ((C + (i + 1) : Nat) : Int) := by rw [i64_in _ (by omega)]; omega
      simp only [e1, e2, decide_eq_true (show ((C + i : Nat) : Int) ≤ ct by omega), cond_true, hd (y * W + C + i) (by omega)]
      have e3 := hF1 (y * W + C + i)
      rw [show y * W + C + (i + 1) = y * W + C + i + 1 by omega, e3]
      cases hq : hit ((y * W + C + i : Nat) : Int)
      · rfl
      · rw [cond_true, hb _ (y * W + C + i) _ (by omega) hq]
        rfl
    · simp only [decide_eq_false (show ¬ ((C + (E - C) : Nat) : Int) ≤ ct by omega), cond_false]
      rw [show C + (E - C) = E by omega, show y * W + C + (E - C) = y * W + E by omega]
  have o1 : F (B * W) = t0 := by
    have : F (B * W) = F 0 := by
      have : B ≤ H := by omega
      have hb2 : B * W ≤ W * H := by rw [Nat.mul_comm W H]; exact Nat.mul_le_mul_right W this
      exact skip 0 (B * W) (by omega) hb2 fun i _ h2 => nohit i (by omega) (.inr (.inr (.inl (Nat.div_lt_of_lt_mul (by rw [Nat.mul_comm]; exact h2)))))
    exact this
  have o2 : F (W * H) = F (D * W) := by
    have : D ≤ H := by omega
    have hb2 : D * W ≤ W * H := by rw [Nat.mul_comm W H]; exact Nat.mul_le_mul_right W this
    exact skip (D * W) (W * H) hb2 (Nat.le_refl _) fun i h1 h2 => nohit i h2 (.inr (.inr (.inr ((Nat.le_div_iff_mul_le (by omega)).2 h1))))
  show touL N B bt C ct W dom hit body t0 K = K (F (W * H))
  rw [o2, ← o1]
  unfold touL
  have key := count_loop (f := fun z : Int × τ =>
        bif decide (z.1 ≤ bt) then
          afterL
            (iterL N
              (fun v : Int × τ =>
                bif decide (v.1 ≤ ct) then
                  bif dom (IntKind.i64.wrap (IntKind.i64.wrap (z.1 * W) + v.1)) then
                    bif hit (IntKind.i64.wrap (IntKind.i64.wrap (z.1 * W) + v.1)) then
                      body _ (IntKind.i64.wrap (IntKind.i64.wrap (z.1 * W) + v.1)) v.2 fun t => some (LRes.cont (IntKind.i64.wrap (v.1 + 1), t))
                    else some (LRes.cont (IntKind.i64.wrap (v.1 + 1), v.2))
                  else none
                else some (LRes.brk 2 (v.1, v.2)))
              ((C : Int), z.2))
            fun id y => if id = 2 then some (LRes.cont (IntKind.i64.wrap (z.1 + 1), y.2)) else none
        else some (LRes.brk 0 (z.1, z.2))) (K := fun id y => if id = 0 then K y.2 else none) (fun j : Nat => (((B + j : Nat) : Int), F ((B + j) * W))) (D - B) (b := 0) (y := ((D : Int), F (D * W))) (fun j hj => ?_) ?_ (N := N) (by omega)
  · exact key
  · simp only [decide_eq_true (show ((B + j : Nat) : Int) ≤ bt by omega), cond_true]
    rw [inner (B + j) (by omega) (by omega) (by omega), if_pos rfl]
    rw [i64_in _ (by omega), show ((B + j : Nat) : Int) + 1 = ((B + (j + 1) : Nat) : Int) by omega]
    rfl
  · simp only [decide_eq_false (show ¬ ((B + (D - B) : Nat) : Int) ≤ bt by omega), cond_false]
    rw [show B + (D - B) = D by omega]
end
--AT fsI8 spL twY
def isC (cx cy sd w h : Int) (pb po : List Int) (x y u v c : Int) : Bool := iceB cx cy sd w h pb po && (plcB x y && plcB u v) && (decide (0 ≤ c) && decide (c < w * h))
def appC : (β : Type) → Int → List Int × Unit → (List Int × Unit → Option β) → Option β := fun _ c t k => if (t.1.length + [c].length) * 8 ≤ room then k (t.1 ++ [c], ()) else none
theorem itouched_text (N n0 : Nat) (α : Type) (cx cy sd w h : Int) (pb po : List Int) (x y u v : Int) (k : AOut → Option α) : evFn real tab ((twY fsI8 spL).env real tab N (n0 + 8)) N Try.f11 α [.agg [.int .i64 cx, .int .i64 cy, .int .i64 sd, .int .i64 w, .int .i64 h, .ro (.int .i64) pb, .ro (.int .i64) po], .agg [.int .i64 x, .int .i64 y], .agg [.int .i64 u, .int .i64 v]] k =
    bif er2 (iceB cx cy sd w h pb po) != 0 then k (.ret (.tup [.ro (.int .i64) [], iN 2]))
    else bif !!([(x, y, ()), (u, v, ())].any offS) then k (.ret (.tup [.ro (.int .i64) [], iN 2]))
    else bif bdB cx sd w x u then bif bdB cy sd h y v then
      touL N (bdF cy sd h y v) (bdT cy sd h y v) (bdF cx sd w x u) (bdT cx sd w x u) w (isC cx cy sd w h pb po x y u v) (toB cx cy sd w x y u v) appC ([], ()) fun t => k (.ret (.tup [.ro (.int .i64) t.1, iN 0]))
    else none else none := by kernel_rfl
end Go.Proofs.Ytbcjhjidhhecaaa

/- Ice: the cells that a way touches, in a row. -/
namespace Go.Proofs.Ytbcjhjidhhecaaa
open Go.RowKit

/-- Those numbers below n for which something holds. -/
def whL (hit : Nat → Bool) (n : Nat) : List Int := ((List.range n).filter hit).map (fun i : Nat => (i : Int))
theorem whL_succ (hit : Nat → Bool) (n : Nat) : whL hit (n + 1) = whL hit n ++ (bif hit n then [(n : Int)] else []) := by
  unfold whL
  rw [List.range_succ, List.filter_append, List.map_append]
  cases h : hit n <;> simp [List.filter_cons, h]
theorem whL_len (hit : Nat → Bool) (n : Nat) : (whL hit n).length ≤ n := by
  unfold whL
  rw [List.length_map]
  exact Nat.le_trans (List.length_filter_le _ _) (by simp)
theorem fold_app (hit : Nat → Bool) : ∀ n, foldC hit (fun n (t : List Int × Unit) => (t.1 ++ [(n : Int)], ())) ([], ()) n = (whL hit n, ())
  | 0 => rfl
  | n + 1 => by
    simp only [foldC]
    rw [fold_app hit n, whL_succ]
    cases hit n <;> simp
def cels (w h : Int) : Nat := (w * h).toNat
def tchB (cx cy sd w h : Int) (pb po : List Int) (x y u v : Int) : Bool := iceB cx cy sd w h pb po && (plcB x y && plcB u v)
def tchL (cx cy sd w h x y u v : Int) : List Int := whL (fun n => toB cx cy sd w x y u v n) (cels w h)
def tcV (cx cy sd w h : Int) (pb po : List Int) (x y u v : Int) : List Int := bif tchB cx cy sd w h pb po x y u v then tchL cx cy sd w h x y u v else []
theorem any_off2 (x y u v : Int) : [(x, y, ()), (u, v, ())].any offS = !(plcB x y && plcB u v) := by simp [offS]
theorem bd_of {co sd many a b : Int} (h1 : -6553600000 ≤ co ∧ co ≤ 6553600000) (h2 : 1 ≤ sd ∧ sd ≤ 6553600000) (h3 : 1 ≤ many ∧ many ≤ 256) (h4 : -6553600000 ≤ a ∧ a ≤ 6553600000) (h5 : -6553600000 ≤ b ∧ b ≤ 6553600000) : bdB co sd many a b = true := by
  simp only [bdB, Bool.and_eq_true, decide_eq_true_eq]
  exact ⟨⟨⟨⟨h1, h2⟩, h3⟩, h4⟩, h5⟩
/-- The loops over the cells that a way touches. -/
theorem tou_ice {τ α : Type} (cx cy sd w h : Int) (pb po : List Int) (x y u v : Int) (hb : tchB cx cy sd w h pb po x y u v = true) (body : (β : Type) → Int → τ → (τ → Option β) → Option β) (upd : Nat → τ → τ) (t0 : τ)
    (hbd : ∀ (β : Type) (n : Nat) (k : τ → Option β), n < cels w h → body β n (foldC (fun n => toB cx cy sd w x y u v n) upd t0 n) k = k (upd n (foldC (fun n => toB cx cy sd w x y u v n) upd t0 n))) (K : τ → Option α) {N : Nat} (hN : 300 < N) :
    touL N (bdF cy sd h y v) (bdT cy sd h y v) (bdF cx sd w x u) (bdT cx sd w x u) w (isC cx cy sd w h pb po x y u v) (toB cx cy sd w x y u v) body t0 K = K (foldC (fun n => toB cx cy sd w x y u v n) upd t0 (cels w h)) := by
  have hb' := hb
  simp only [tchB, Bool.and_eq_true, plc_iff] at hb'
  obtain ⟨hI, hp, hq⟩ := hb'
  have g := ice_is _ _ _ _ _ _ _ hI
  have gw := g.fw; have gh := g.fh; have gs := g.fs; have gc := g.fc
  obtain ⟨b0, b1, b2⟩ := bd_in (bd_of gc.2 gs gh hp.2 hq.2)
  obtain ⟨c0, c1, c2⟩ := bd_in (bd_of gc.1 gs gw hp.1 hq.1)
  obtain ⟨W, rfl⟩ := Int.eq_ofNat_of_zero_le (show 0 ≤ w by omega)
  obtain ⟨H, rfl⟩ := Int.eq_ofNat_of_zero_le (show 0 ≤ h by omega)
  have hc : cels W H = W * H := by unfold cels; omega
  have hlt : ∀ n : Nat, n < W * H → (n : Int) < (W : Int) * H := fun n hn => by
    have : ((n : Nat) : Int) < ((W * H : Nat) : Int) := by omega
    rwa [Int.natCast_mul] at this
  rw [hc]
  refine touL_eq W H ⟨by omega, by omega⟩ ⟨by omega, by omega⟩ b0 b1 b2 c0 c1 c2 (fun n hn => ?_) (fun n hn hh => ?_) body upd t0 (fun β n k hn _ => hbd β n k (by rw [hc]; exact hn)) K hN
  · unfold isC
    unfold tchB at hb
    rw [hb, decide_eq_true (show (0 : Int) ≤ n by omega), decide_eq_true (hlt n hn)]; rfl
  · obtain ⟨⟨p0, p1⟩, ⟨q0, q1⟩, _⟩ := cell_at gc gs gw gh (show (0 : Int) ≤ n by omega) (hlt n hn)
    simp only [toB, touB, Bool.and_eq_true, decide_eq_true_eq] at hh
    obtain ⟨⟨⟨a1, a2⟩, a3, a4⟩, _⟩ := hh
    have e1 : ((n % W : Nat) : Int) = (n : Int) % W := by simp
    have e2 : ((n / W : Nat) : Int) = (n : Int) / W := by simp
    rw [e1, e2]
    exact ⟨bd_hit gs.1 p0 p1 a1 a2, bd_hit gs.1 q0 q1 a3 a4⟩
theorem cels_le {w h : Int} (hw : 1 ≤ w ∧ w ≤ 256) (hh : 1 ≤ h ∧ h ≤ 256) : cels w h ≤ 65536 ∧ ((cels w h : Nat) : Int) = w * h := by
  have := mul_in (a := w) (b := h) (A := 256) (B := 256) ⟨by omega, by omega⟩ ⟨by omega, by omega⟩
  unfold cels; omega
--AT fsI8 spL twY
--FIN itouched | besom/ice.Touched | $ICB (x y u v : Int) | $ICE, $S{x y}, $S{u v} | .ret (.tup [.ro (.int .i64) (tcV $ICV x y u v), .int .i64 (er2 (tchB $ICV x y u v))])
theorem itouched_fin (cx cy sd w h : Int) (pb po : List Int) (x y u v : Int) (hs : ∀ qSm ∈ ([.agg [.int .i64 cx, .int .i64 cy, .int .i64 sd, .int .i64 w, .int .i64 h, .ro (.int .i64) pb, .ro (.int .i64) po], .agg [.int .i64 x, .int .i64 y], .agg [.int .i64 u, .int .i64 v]] : List AVal), Sm qSm) : ∃ N n, ∀ α (k : AOut → Option α), evFn real tab ((twY fsI8 spL).env real tab N n) N Try.f11 α [.agg [.int .i64 cx, .int .i64 cy, .int .i64 sd, .int .i64 w, .int .i64 h, .ro (.int .i64) pb, .ro (.int .i64) po], .agg [.int .i64 x, .int .i64 y], .agg [.int .i64 u, .int .i64 v]] k = k (.ret (.tup [.ro (.int .i64) (tcV cx cy sd w h pb po x y u v), .int .i64 (er2 (tchB cx cy sd w h pb po x y u v))])) := by
  refine ⟨301, 8, fun α k => (itouched_text 301 0 α cx cy sd w h pb po x y u v k).trans ?_⟩
  rw [celE_le, er2_0, any_off2]
  unfold tcV
  cases hb : tchB cx cy sd w h pb po x y u v
  · have hb' := hb
    unfold tchB at hb'
    cases hi : iceB cx cy sd w h pb po
    · rfl
    · rw [hi, Bool.true_and] at hb'
      rw [hb']; rfl
  · have hb' := hb
    simp only [tchB, Bool.and_eq_true] at hb'
    obtain ⟨hI, hp, hq⟩ := hb'
    have g := ice_is _ _ _ _ _ _ _ hI
    rw [plc_iff] at hp hq
    rw [hI, (plc_iff (x := x) (y := y)).2 hp, (plc_iff (x := u) (y := v)).2 hq, bd_of g.fc.1 g.fs g.fw hp.1 hq.1, bd_of g.fc.2 g.fs g.fh hp.2 hq.2]
    simp only [Bool.not_true, Bool.not_false, Bool.and_self, cond_false, cond_true]
    rw [tou_ice cx cy sd w h pb po x y u v hb appC (fun n t => (t.1 ++ [(n : Int)], ())) ([], ()) (fun β n k' hn => ?_) _ (by omega), fold_app]
    · rfl
    · rw [fold_app]
      unfold appC
      have := whL_len (fun n => toB cx cy sd w x y u v n) n
      have c := (cels_le g.fw g.fh).1
      rw [if_pos (by simp [room]; omega)]
--CON itouched
noncomputable def itouchedS : Fsp := fun _ args k => match args with
  | [.agg [.int .i64 cx, .int .i64 cy, .int .i64 sd, .int .i64 w, .int .i64 h, .ro (.int .i64) pb, .ro (.int .i64) po], .agg [.int .i64 x, .int .i64 y], .agg [.int .i64 u, .int .i64 v]] => k (.ret (.tup [.ro (.int .i64) (tcV cx cy sd w h pb po x y u v), .int .i64 (er2 (tchB cx cy sd w h pb po x y u v))]))
  | _ => none
theorem itouchedS_ok : FspOk Try.prog 11 itouchedS := tower_Y fsI8_ok spL_ok ⟨Try.func11, fun _ _ => by kernel_rfl⟩ (by intro α args k; unfold itouchedS; split <;> rfl) fun args out hSm hEq => by
  unfold itouchedS at hEq
  split at hEq
  · rename_i cx cy sd w h pb po x y u v
    obtain ⟨N, n, e⟩ := itouched_fin cx cy sd w h pb po x y u v hSm
    exact ⟨N, n, (e AOut some).trans hEq⟩
  · cases hEq
--END
--FS fsIt | fsI8 | itouched
noncomputable def fsIt : FuncId → Option Fsp := fun g =>
  if g = 11 then some itouchedS else
  fsI8 g
theorem fsIt_ok : FsOk fsIt :=
  fs_cons itouchedS_ok <|
  fsI8_ok
--END
end Go.Proofs.Ytbcjhjidhhecaaa

/- The laws of package ice: alive. -/
namespace Go.Proofs.Ytbcjhjidhhecaaa
open Go.RowKit

/-! Roots, open to evaluation. -/
def rtUpC (a how : Int) : Bool := if how = 2 then !(rtC a * rtC a == a) else if how = 3 then decide ((2 * rtC a + 1) * (2 * rtC a + 1) ≤ 4 * a) else false
def rtNC (a how : Int) : Int := rtC a + (bif rtUpC a how then 1 else 0)
def rootVC (a how : Int) : Int := bif rootB a how then (bif ngB a then 0 else fxV false (rtNC (a * 65536) how)) else 0
def rootEC (a how : Int) : Int := bif rootB a how then (bif ngB a then 11 else fxE (rtNC (a * 65536) how)) else 2
def frootCS : Fsp := fun _ args k => match args with
  | [.int .i64 x, .int .i64 how] => k (i2 (rootVC x how) (rootEC x how))
  | _ => none
theorem frootCS_ok : FspOk Try.prog 34 frootCS := by
  have e : frootCS = frootS := by
    unfold frootCS frootS rootVC rootEC rtNC rtUpC rootV rootE rtN rtUp
    rw [rt_C]
    rfl
  rw [e]; exact frootS_ok
--AT fsIt spL twY
abbrev pondI : AVal := .agg [iN 0, iN 0, iN 10, iN 2, iN 3, .ro (.int .i64) ([100, 200, 300, 400, 500, 600] : List Int), .ro (.int .i64) ([0, 0, 0, 0, 0, 500] : List Int)]
abbrev pondG : AVal := .agg [iN 1000, iN 500, iN 200, iN 100, iN 150]
theorem pond_text (α : Type) (k : AOut → Option α) : evFn real tab ((twY fsIt spL).env real tab 8 8) 8 Try.f25 α [] k = k (.ret (.tup [pondI, pondG])) := by kernel_rfl
--FIN pond | besom/besomlaw03.pond |  |  | .ret (.tup [pondI, pondG])
theorem pond_fin  (hs : ∀ qSm ∈ ([] : List AVal), Sm qSm) : ∃ N n, ∀ α (k : AOut → Option α), evFn real tab ((twY fsIt spL).env real tab N n) N Try.f25 α [] k = k (.ret (.tup [pondI, pondG])) := by
  exact ⟨8, 8, fun α k => pond_text α k⟩
--CON pond
noncomputable def pondS : Fsp := fun _ args k => match args with
  | [] => k (.ret (.tup [pondI, pondG]))
  | _ => none
theorem pondS_ok : FspOk Try.prog 25 pondS := tower_Y fsIt_ok spL_ok ⟨Try.func25, fun _ _ => by kernel_rfl⟩ (by intro α args k; unfold pondS; split <;> rfl) fun args out hSm hEq => by
  unfold pondS at hEq
  split at hEq
  · skip
    obtain ⟨N, n, e⟩ := pond_fin  hSm
    exact ⟨N, n, (e AOut some).trans hEq⟩
  · cases hEq
--END
--FS fsIa | fsIt | frootC=besom/fixed.Root;pond
noncomputable def fsIa : FuncId → Option Fsp := fun g =>
  if g = 34 then some frootCS else
  if g = 25 then some pondS else
  fsIt g
theorem fsIa_ok : FsOk fsIa :=
  fs_cons frootCS_ok <|
  fs_cons pondS_ok <|
  fsIt_ok
--END
--AT fsIa spL twY
set_option maxRecDepth 100000 in
theorem ialive_text (α : Type) (k : AOut → Option α) : evFn real tab ((twY fsIa spL).env real tab 302 8) 302 Try.f9 α [] k = k (b1 true) := by kernel_rfl
--FIN ialive | besom/besomlaw03.alive |  |  | b1 true
theorem ialive_fin  (hs : ∀ qSm ∈ ([] : List AVal), Sm qSm) : ∃ N n, ∀ α (k : AOut → Option α), evFn real tab ((twY fsIa spL).env real tab N n) N Try.f9 α [] k = k (b1 true) := by
  exact ⟨302, 8, fun α k => ialive_text α k⟩
--CON ialive
noncomputable def ialiveS : Fsp := fun _ args k => match args with
  | [] => k (b1 true)
  | _ => none
theorem ialiveS_ok : FspOk Try.prog 9 ialiveS := tower_Y fsIa_ok spL_ok ⟨Try.func9, fun _ _ => by kernel_rfl⟩ (by intro α args k; unfold ialiveS; split <;> rfl) fun args out hSm hEq => by
  unfold ialiveS at hEq
  split at hEq
  · skip
    obtain ⟨N, n, e⟩ := ialive_fin  hSm
    exact ⟨N, n, (e AOut some).trans hEq⟩
  · cases hEq
--END
--FS fsIb | fsIt | ialive
noncomputable def fsIb : FuncId → Option Fsp := fun g =>
  if g = 9 then some ialiveS else
  fsIt g
theorem fsIb_ok : FsOk fsIb :=
  fs_cons ialiveS_ok <|
  fsIt_ok
--END
--AT fsIb spL twY
--TEXT igreat | twY fsIb spL | 8 | besom/besomref03.Great | $ICB (m : Int) | $ICE, $I{m}
--KEY 81c0e39c97
set_option maxRecDepth 100000 in
theorem igreat_text (N n0 : Nat) (α : Type) (cx cy sd w h : Int) (pb po : List Int) (m : Int) (k : AOut → Option α) : evFn real tab ((twY fsIb spL).env real tab N (n0 + 8)) N Try.f10 α [.agg [.int .i64 cx, .int .i64 cy, .int .i64 sd, .int .i64 w, .int .i64 h, .ro (.int .i64) pb, .ro (.int .i64) po], .int .i64 m] k =
  bif decide ((↑pb.length : Int) > m) then k (AOut.ret (AVal.bool true))
  else k (AOut.ret (AVal.bool (decide ((↑po.length : Int) > m)))) := by kernel_rfl
--END
--TEXT ikeen | twY fsIb spL | 8 | besom/besomlaw03.IceKeen | $ICB $GB (x y m1 m2 : Int) | $ICE, $GR, $S{x y}, .agg [.int .u16 m1, .int .u16 m2]
--KEY 724bd8cd37
set_option maxRecDepth 100000 in
theorem ikeen_text (N n0 : Nat) (α : Type) (cx cy sd w h : Int) (pb po : List Int) (fl ke sw be we : Int) (x y m1 m2 : Int) (k : AOut → Option α) : evFn real tab ((twY fsIb spL).env real tab N (n0 + 8)) N Try.f5 α [.agg [.int .i64 cx, .int .i64 cy, .int .i64 sd, .int .i64 w, .int .i64 h, .ro (.int .i64) pb, .ro (.int .i64) po], .agg [.int .i64 fl, .int .i64 ke, .int .i64 sw, .int .i64 be, .int .i64 we], .agg [.int .i64 x, .int .i64 y], .agg [.int .u16 m1, .int .u16 m2]] k =
  bif decide ((↑pb.length : Int) > 400) then k (AOut.ret (AVal.bool true))
  else
    bif decide ((↑po.length : Int) > 400) then k (AOut.ret (AVal.bool true))
    else
      bif slwE cx cy sd w h pb po fl ke sw be we x y != 0 then
        bif slwV cx cy sd w h pb po fl ke sw be we x y == 0 then
          k (AOut.ret (AVal.bool (bdvV cx cy sd w h pb po fl ke sw be we x y == 0)))
        else k (AOut.ret (AVal.bool false))
      else
        bif slwE cx cy sd w h pb po fl ke sw be we x y != 0 then
          bif slwV cx cy sd w h pb po fl ke sw be we x y == 0 then
            k (AOut.ret (AVal.bool (bdvV cx cy sd w h pb po fl ke sw be we x y == 0)))
          else k (AOut.ret (AVal.bool false))
        else
          bif decide (slwV cx cy sd w h pb po fl ke sw be we x y > fl) then k (AOut.ret (AVal.bool false))
          else
            bif decide (slwV cx cy sd w h pb po fl ke sw be we x y < 0) then k (AOut.ret (AVal.bool false))
            else
              bif decide (bdvV cx cy sd w h pb po fl ke sw be we x y < 0) then k (AOut.ret (AVal.bool false))
              else
                bif atE cx cy sd w h pb po x y != 0 then
                  bif slwV cx cy sd w h pb po fl ke sw be we x y != fl then k (AOut.ret (AVal.bool false))
                  else bif atE cx cy sd w h pb po x y != 0 then k (AOut.ret (AVal.bool true)) else none
                else bif atE cx cy sd w h pb po x y != 0 then k (AOut.ret (AVal.bool true)) else none := by kernel_rfl
--END
end Go.Proofs.Ytbcjhjidhhecaaa

/- IcePlaces: greatest common divisors, lists that are the same; the statement's text. -/
namespace Go.Proofs.Ytbcjhjidhhecaaa
open Go.RowKit

section
variable {α : Type}
def gcdF : Int × Int × Unit → Option (LRes (Int × Int × Unit) α) := fun x =>
  bif decide (x.2.1 > 0) then
    if x.2.1 = 0 then none else some (LRes.cont (x.2.1, x.1.tmod x.2.1, ()))
  else some (LRes.brk 0 (x.1, x.2.1, ()))
theorem gcd_loop : ∀ (m a b : Nat), b ≤ m → iterL (α := α) (m + 1) gcdF ((a : Int), (b : Int), ()) = some (.brk 0 ((Nat.gcd a b : Nat), 0, ()))
  | 0, a, b, hb => by
    have : b = 0 := by omega
    subst this
    simp [iterL, gcdF]
  | m + 1, a, b, hb => by
    rcases Nat.eq_zero_or_pos b with rfl | h0
    · simp [iterL, gcdF]
    · have e : gcdF (α := α) ((a : Int), (b : Int), ()) = some (LRes.cont ((b : Int), ((a % b : Nat) : Int), ())) := by
        unfold gcdF
        simp only
        rw [decide_eq_true (show (b : Int) > 0 by omega), cond_true, if_neg (by omega), Int.tmod_eq_emod_of_nonneg (by omega)]
        simp
      have ih := gcd_loop m b (a % b) (by have := Nat.mod_lt a h0; omega)
      conv => lhs; unfold iterL
      rw [e]
      simp only
      rw [ih, Nat.gcd_comm a b, Nat.gcd_rec b a, Nat.gcd_comm]
end
def smB (a : Int) : Bool := decide (-70368744177664 ≤ a) && decide (a ≤ 70368744177664)
def gcdI (a b : Int) : Int := (Nat.gcd a.natAbs b.natAbs : Nat)
--AT fsIb spL twY
theorem igcd_text (N n0 : Nat) (α : Type) (a b : Int) (k : AOut → Option α) : evFn real tab ((twY fsIb spL).env real tab N (n0 + 8)) N Try.f12 α [.int .i64 a, .int .i64 b] k =
    afterL (iterL N gcdF (mx a (IntKind.i64.wrap (0 - a)), mx b (IntKind.i64.wrap (0 - b)), ())) fun id y => if id = 0 then k (i1 y.1) else none := by kernel_rfl
theorem mx_abs {a : Int} (h : smB a = true) : mx a (IntKind.i64.wrap (0 - a)) = (a.natAbs : Int) := by
  simp only [smB, Bool.and_eq_true, decide_eq_true_eq] at h
  rw [i64_in (0 - a) (by omega)]
  unfold mx
  split <;> omega
--FIN igcd | besom/besomlaw03.gcd | (a b : Int) | $I{a}, $I{b} | i1 (gcdI a b) | smB a && smB b
theorem igcd_fin (a b : Int) (hs : ∀ qSm ∈ ([.int .i64 a, .int .i64 b] : List AVal), Sm qSm) (hCo : (smB a && smB b) = true) : ∃ N n, ∀ α (k : AOut → Option α), evFn real tab ((twY fsIb spL).env real tab N n) N Try.f12 α [.int .i64 a, .int .i64 b] k = k (i1 (gcdI a b)) := by
  simp only [Bool.and_eq_true] at hCo
  refine ⟨b.natAbs + 1, 8, fun α k => (igcd_text (b.natAbs + 1) 0 α a b k).trans ?_⟩
  rw [mx_abs hCo.1, mx_abs hCo.2, gcd_loop b.natAbs _ _ (Nat.le_refl _)]
  rfl
--CON igcd
noncomputable def igcdS : Fsp := fun _ args k => match args with
  | [.int .i64 a, .int .i64 b] => bif smB a && smB b then k (i1 (gcdI a b)) else none
  | _ => none
theorem igcdS_ok : FspOk Try.prog 12 igcdS := tower_Y fsIb_ok spL_ok ⟨Try.func12, fun _ _ => by kernel_rfl⟩ (by intro α args k; unfold igcdS; split <;> simp only [cond_bind, Option.bind_some, Option.bind_none]) fun args out hSm hEq => by
  unfold igcdS at hEq
  split at hEq
  · rename_i a b
    cases hc : smB a && smB b
    · rw [hc] at hEq; cases hEq
    · rw [hc] at hEq
      obtain ⟨N, n, e⟩ := igcd_fin a b hSm hc
      exact ⟨N, n, (e AOut some).trans hEq⟩
  · cases hEq
--END
theorem iints_text (N n0 : Nat) (α : Type) (xs ys : List Int) (k : AOut → Option α) : evFn real tab ((twY fsIb spL).env real tab N (n0 + 8)) N Try.f14 α [.ro (.int .i64) xs, .ro (.int .i64) ys] k =
    bif (xs.length : Int) != (ys.length : Int) then k (b1 false)
    else
      afterL (iterL N (fun x : Int × Unit =>
        bif decide (x.1 < (xs.length : Int)) then
          if 0 ≤ x.1 ∧ x.1 < (xs.length : Int) then
            if 0 ≤ x.1 ∧ x.1 < (ys.length : Int) then
              bif xs.getD x.1.toNat 0 != ys.getD x.1.toNat 0 then finL (k (b1 false))
              else some (LRes.cont (IntKind.i64.wrap (x.1 + 1), ()))
            else none
          else none
        else some (LRes.brk 0 (x.1, ()))) (0, ())) fun id _ => if id = 0 then k (b1 true) else none := by kernel_rfl
theorem list_eq_getD {xs ys : List Int} (h : xs.length = ys.length) : (!(List.range xs.length).any fun i => xs.getD i 0 != ys.getD i 0) = (xs == ys) := by
  rw [Bool.eq_iff_iff, Bool.not_eq_true', beq_iff_eq]
  constructor
  · intro hn
    refine List.ext_getElem h fun i h1 h2 => ?_
    have : ¬ (xs.getD i 0 != ys.getD i 0) = true := fun hc => by
      have := (List.any_eq_true (p := fun i => xs.getD i 0 != ys.getD i 0)).2 ⟨i, List.mem_range.2 h1, hc⟩
      rw [hn] at this; cases this
    rw [List.getD_eq_getElem?_getD, List.getD_eq_getElem?_getD, List.getElem?_eq_getElem h1, List.getElem?_eq_getElem h2] at this
    simpa using this
  · rintro rfl
    simp
--FIN iints | besom/besomref03.Ints | (xs ys : List Int) | .ro (.int .i64) xs, .ro (.int .i64) ys | b1 (BEq.beq (α := List Int) xs ys)
theorem iints_fin (xs ys : List Int) (hs : ∀ qSm ∈ ([.ro (.int .i64) xs, .ro (.int .i64) ys] : List AVal), Sm qSm) : ∃ N n, ∀ α (k : AOut → Option α), evFn real tab ((twY fsIb spL).env real tab N n) N Try.f14 α [.ro (.int .i64) xs, .ro (.int .i64) ys] k = k (b1 (BEq.beq (α := List Int) xs ys)) := by
  have hl : xs.length ≤ maxLen := (hs _ (List.mem_cons_self ..)).len
  refine ⟨xs.length + 1, 8, fun α k => (iints_text (xs.length + 1) 0 α xs ys k).trans ?_⟩
  by_cases hn : xs.length = ys.length
  · rw [show ((xs.length : Int) != (ys.length : Int)) = false by simp [hn], cond_false]
    refine (any_loop (fun i : Nat => ((i : Int), ())) xs.length (fun i => xs.getD i 0 != ys.getD i 0) (b := 0) (y := ((xs.length : Int), ())) (k (b1 false)) (fun i hi => ?_) ?_).trans ?_
    · simp only [lt_len hi, cond_true]
      rw [if_pos (in_len hi), if_pos (in_len (by omega)), wrap_next hi hl]
      rfl
    · simp only [not_lt_len, cond_false]
    · have e := list_eq_getD hn
      rw [← e]
      cases (List.range xs.length).any fun i => xs.getD i 0 != ys.getD i 0 <;> rfl
  · rw [show ((xs.length : Int) != (ys.length : Int)) = true by simp; omega, cond_true]
    have : (xs == ys) = false := by
      rw [beq_eq_false_iff_ne]; rintro rfl; exact hn rfl
    rw [this]
--CON iints
noncomputable def iintsS : Fsp := fun _ args k => match args with
  | [.ro (.int .i64) xs, .ro (.int .i64) ys] => k (b1 (BEq.beq (α := List Int) xs ys))
  | _ => none
theorem iintsS_ok : FspOk Try.prog 14 iintsS := tower_Y fsIb_ok spL_ok ⟨Try.func14, fun _ _ => by kernel_rfl⟩ (by intro α args k; unfold iintsS; split <;> rfl) fun args out hSm hEq => by
  unfold iintsS at hEq
  split at hEq
  · rename_i xs ys
    obtain ⟨N, n, e⟩ := iints_fin xs ys hSm
    exact ⟨N, n, (e AOut some).trans hEq⟩
  · cases hEq
--END
--FS fsIc | fsIb | igcd;iints
noncomputable def fsIc : FuncId → Option Fsp := fun g =>
  if g = 12 then some igcdS else
  if g = 14 then some iintsS else
  fsIb g
theorem fsIc_ok : FsOk fsIc :=
  fs_cons igcdS_ok <|
  fs_cons iintsS_ok <|
  fsIb_ok
--END
end Go.Proofs.Ytbcjhjidhhecaaa

/- Ways and cells in plain numbers: a place of a way that is in a cell; the way back. -/
namespace Go.Proofs.Ytbcjhjidhhecaaa
open Go.RowKit

theorem cnT_full {T : Nat → Int} {v : Int} : ∀ (n : Nat), cnT T v n = n → ∀ i, i < n → T i = v
  | 0, _, i, hi => by omega
  | n + 1, h, i, hi => by
    have := cnT_in T v n
    simp only [cnT] at h
    by_cases hn : T n = v
    · rw [if_pos hn] at h
      rcases Nat.lt_or_ge i n with h' | h'
      · exact cnT_full n (by omega) i h'
      · have : i = n := by omega
        subst this; exact hn
    · rw [if_neg hn] at h; omega
theorem cnT_lt {T : Nat → Int} {v : Int} {i : Nat} (hi : i < 4) (h : T i ≠ v) : cnT T v 4 < 4 := by
  have := cnT_in T v 4
  by_cases h4 : cnT T v 4 = 4
  · exact absurd (cnT_full 4 h4 i hi) h
  · omega
theorem sgn3_neg {a : Int} : sgn3 a = -1 ↔ a < 0 := by
  unfold sgn3 cmp3
  split
  · simp; omega
  · split <;> simp <;> omega
theorem sgn3_pos {a : Int} : sgn3 a = 1 ↔ 0 < a := by
  unfold sgn3 cmp3
  split
  · simp; omega
  · split <;> simp <;> omega
/-- A place of a way, in a cell: the way touches it. -/
theorem tou_of {x y u v lx ly hx hy s t : Int} (h0 : (u - x) * (t - y) - (v - y) * (s - x) = 0) (hs : mn x u ≤ s ∧ s ≤ mx x u) (ht : mn y v ≤ t ∧ t ≤ mx y v) (hX : lx ≤ s ∧ s ≤ hx) (hY : ly ≤ t ∧ t ≤ hy) : touB x y u v lx ly hx hy = true := by
  simp only [touB, Bool.and_eq_true, decide_eq_true_eq]
  refine ⟨⟨⟨by omega, by omega⟩, by omega, by omega⟩, ?_, ?_⟩
  · -- some corner is not to the right
    have key : ∃ i, i < 4 ∧ 0 ≤ (u - x) * (cY ly hy i - y) - (v - y) * (cX lx hx i - x) := by
      have yy : ∃ Y, (Y = ly ∨ Y = hy) ∧ (u - x) * (t - y) ≤ (u - x) * (Y - y) := by
        rcases Int.le_total 0 (u - x) with h | h
        · exact ⟨hy, .inr rfl, Int.mul_le_mul_of_nonneg_left (by omega) h⟩
        · exact ⟨ly, .inl rfl, Int.mul_le_mul_of_nonpos_left h (by omega)⟩
      have xx : ∃ X, (X = lx ∨ X = hx) ∧ (v - y) * (X - x) ≤ (v - y) * (s - x) := by
        rcases Int.le_total 0 (v - y) with h | h
        · exact ⟨lx, .inl rfl, Int.mul_le_mul_of_nonneg_left (by omega) h⟩
        · exact ⟨hx, .inr rfl, Int.mul_le_mul_of_nonpos_left h (by omega)⟩
      obtain ⟨Y, hY', e1⟩ := yy
      obtain ⟨X, hX', e2⟩ := xx
      rcases hY' with rfl | rfl <;> rcases hX' with rfl | rfl
      · exact ⟨0, by omega, by simp only [cX, cY, List.getD_cons_zero]; omega⟩
      · exact ⟨1, by omega, by simp only [cX, cY, List.getD_cons_zero, List.getD_cons_succ]; omega⟩
      · exact ⟨2, by omega, by simp only [cX, cY, List.getD_cons_zero, List.getD_cons_succ]; omega⟩
      · exact ⟨3, by omega, by simp only [cX, cY, List.getD_cons_zero, List.getD_cons_succ]; omega⟩
    obtain ⟨i, hi, hp⟩ := key
    exact cnT_lt hi fun e => by have := sgn3_neg.1 e; omega
  · have key : ∃ i, i < 4 ∧ (u - x) * (cY ly hy i - y) - (v - y) * (cX lx hx i - x) ≤ 0 := by
      have yy : ∃ Y, (Y = ly ∨ Y = hy) ∧ (u - x) * (Y - y) ≤ (u - x) * (t - y) := by
        rcases Int.le_total 0 (u - x) with h | h
        · exact ⟨ly, .inl rfl, Int.mul_le_mul_of_nonneg_left (by omega) h⟩
        · exact ⟨hy, .inr rfl, Int.mul_le_mul_of_nonpos_left h (by omega)⟩
      have xx : ∃ X, (X = lx ∨ X = hx) ∧ (v - y) * (s - x) ≤ (v - y) * (X - x) := by
        rcases Int.le_total 0 (v - y) with h | h
        · exact ⟨hx, .inr rfl, Int.mul_le_mul_of_nonneg_left (by omega) h⟩
        · exact ⟨lx, .inl rfl, Int.mul_le_mul_of_nonpos_left h (by omega)⟩
      obtain ⟨Y, hY', e1⟩ := yy
      obtain ⟨X, hX', e2⟩ := xx
      rcases hY' with rfl | rfl <;> rcases hX' with rfl | rfl
      · exact ⟨0, by omega, by simp only [cX, cY, List.getD_cons_zero]; omega⟩
      · exact ⟨1, by omega, by simp only [cX, cY, List.getD_cons_zero, List.getD_cons_succ]; omega⟩
      · exact ⟨2, by omega, by simp only [cX, cY, List.getD_cons_zero, List.getD_cons_succ]; omega⟩
      · exact ⟨3, by omega, by simp only [cX, cY, List.getD_cons_zero, List.getD_cons_succ]; omega⟩
    obtain ⟨i, hi, hp⟩ := key
    exact cnT_lt hi fun e => by have := sgn3_pos.1 e; omega
theorem mx_comm (a b : Int) : mx a b = mx b a := by unfold mx; split <;> split <;> omega
theorem mn_comm (a b : Int) : mn a b = mn b a := by unfold mn; split <;> split <;> omega
theorem cnT_flip {S T : Nat → Int} (v : Int) : ∀ n, (∀ i, i < n → (S i = v ↔ T i = -v)) → cnT S v n = cnT T (-v) n
  | 0, _ => rfl
  | n + 1, h => by
    simp only [cnT, cnT_flip v n fun i hi => h i (by omega)]
    have := h n (by omega)
    by_cases hs : S n = v
    · rw [if_pos hs, if_pos (this.1 hs)]
    · rw [if_neg hs, if_neg fun e => hs (this.2 e)]
theorem cross_back (x y u v X Y : Int) : (x - u) * (Y - v) - (y - v) * (X - u) = -((u - x) * (Y - y) - (v - y) * (X - x)) := by
  have e1 : (x - u) * (Y - v) = x * Y - x * v - u * Y + u * v := by rw [Int.sub_mul, Int.mul_sub, Int.mul_sub]; omega
  have e2 : (y - v) * (X - u) = y * X - y * u - v * X + v * u := by rw [Int.sub_mul, Int.mul_sub, Int.mul_sub]; omega
  have e3 : (u - x) * (Y - y) = u * Y - u * y - x * Y + x * y := by rw [Int.sub_mul, Int.mul_sub, Int.mul_sub]; omega
  have e4 : (v - y) * (X - x) = v * X - v * x - y * X + y * x := by rw [Int.sub_mul, Int.mul_sub, Int.mul_sub]; omega
  rw [e1, e2, e3, e4, Int.mul_comm v u, Int.mul_comm y u, Int.mul_comm v x, Int.mul_comm y x]
  omega
theorem tou_back (x y u v lx ly hx hy : Int) : touB u v x y lx ly hx hy = touB x y u v lx ly hx hy := by
  have flip : ∀ w : Int, w = -1 ∨ w = 1 → cnT (sid u v x y lx ly hx hy) w 4 = cnT (sid x y u v lx ly hx hy) (-w) 4 := fun w hw => cnT_flip w 4 fun i _ => by
    unfold sid
    rw [cross_back]
    generalize (u - x) * (cY ly hy i - y) - (v - y) * (cX lx hx i - x) = q
    rcases hw with rfl | rfl
    · rw [sgn3_neg, show -(-1 : Int) = 1 from rfl, sgn3_pos]; omega
    · rw [sgn3_pos, sgn3_neg]; omega
  unfold touB
  rw [flip (-1) (.inl rfl), flip 1 (.inr rfl), mx_comm u x, mn_comm u x, mx_comm v y, mn_comm v y, show -(-1 : Int) = 1 from rfl]
  rw [Bool.and_comm (decide (cnT (sid x y u v lx ly hx hy) 1 4 < 4))]
/-- The cell of a place. -/
theorem cel_parts {cx cy sd w h x y : Int} (hsd : 1 ≤ sd) (hw : 1 ≤ w) (hi : inC cx cy sd w h x y = true) : celC cx cy sd w x y % w = (x - cx) / sd ∧ celC cx cy sd w x y / w = (y - cy) / sd := by
  obtain ⟨_, _, ⟨a0, a1⟩, b0, b1⟩ := cel_in hsd hw hi
  unfold celC
  generalize (x - cx) / sd = p at *
  generalize (y - cy) / sd = q at *
  constructor
  · rw [Int.add_comm, Int.add_mul_emod_self_right, Int.emod_eq_of_lt a0 a1]
  · rw [Int.add_comm, Int.add_mul_ediv_right _ _ (by omega), Int.ediv_eq_zero_of_lt a0 a1]; omega
theorem to_of_place {cx cy sd w h x y u v s t : Int} (hsd : 1 ≤ sd) (hw : 1 ≤ w) (h0 : (u - x) * (t - y) - (v - y) * (s - x) = 0) (hs : mn x u ≤ s ∧ s ≤ mx x u) (ht : mn y v ≤ t ∧ t ≤ mx y v) (hi : inC cx cy sd w h s t = true) : toB cx cy sd w x y u v (celC cx cy sd w s t) = true := by
  obtain ⟨e1, e2⟩ := cel_parts hsd hw hi
  unfold toB
  rw [e1, e2]
  have f1 := Int.emod_add_mul_ediv (s - cx) sd
  have f2 := Int.emod_nonneg (s - cx) (show sd ≠ 0 by omega)
  have f3 := Int.emod_lt_of_pos (s - cx) (show 0 < sd by omega)
  have g1 := Int.emod_add_mul_ediv (t - cy) sd
  have g2 := Int.emod_nonneg (t - cy) (show sd ≠ 0 by omega)
  have g3 := Int.emod_lt_of_pos (t - cy) (show 0 < sd by omega)
  rw [Int.mul_comm] at f1 g1
  exact tou_of h0 hs ht ⟨by omega, by omega⟩ ⟨by omega, by omega⟩

/-! Lists of numbers for which something holds. -/
theorem whL_at (hit : Nat → Bool) (n : Nat) {i : Nat} (hi : i < (whL hit n).length) : ∃ m : Nat, (whL hit n).getD i 0 = m ∧ m < n ∧ hit m = true := by
  rw [List.getD_eq_getElem?_getD, List.getElem?_eq_getElem hi]
  have hm := List.getElem_mem hi
  obtain ⟨m, hm', e⟩ := List.mem_map.1 hm
  obtain ⟨h1, h2⟩ := List.mem_filter.1 hm'
  exact ⟨m, by rw [Option.getD_some]; exact e.symm, List.mem_range.1 h1, h2⟩
theorem whL_has {hit : Nat → Bool} {n m : Nat} (hm : m < n) (h : hit m = true) : ∃ i, i < (whL hit n).length ∧ (whL hit n).getD i 0 = (m : Int) := by
  have : (m : Int) ∈ whL hit n := List.mem_map.2 ⟨m, List.mem_filter.2 ⟨List.mem_range.2 hm, h⟩, rfl⟩
  obtain ⟨i, hi, e⟩ := List.mem_iff_getElem.1 this
  exact ⟨i, hi, by rw [List.getD_eq_getElem?_getD, List.getElem?_eq_getElem hi, Option.getD_some, e]⟩
theorem whL_rise (hit : Nat → Bool) (n : Nat) : (whL hit n).Pairwise (· < ·) := by
  unfold whL
  rw [List.pairwise_map]
  refine (List.Pairwise.filter _ List.pairwise_lt_range).imp ?_
  intro a b h; omega
theorem whL_next (hit : Nat → Bool) (n : Nat) {i : Nat} (h0 : 0 < i) (hi : i < (whL hit n).length) : (whL hit n).getD (i - 1) 0 < (whL hit n).getD i 0 := by
  have := List.pairwise_iff_getElem.1 (whL_rise hit n) (i - 1) i (by omega) hi (by omega)
  rw [List.getD_eq_getElem?_getD, List.getD_eq_getElem?_getD, List.getElem?_eq_getElem hi, List.getElem?_eq_getElem (by omega)]
  exact this
end Go.Proofs.Ytbcjhjidhhecaaa

/- IcePlaces: its text, and that it answers true. -/
namespace Go.Proofs.Ytbcjhjidhhecaaa
open Go.RowKit

section
variable {α : Type}
def plT (l : List Int) (wh c : Int) (F : Option α) (z : Bool × Int × Unit) : Option (LRes (Bool × Int × Unit) α) :=
  bif decide (l.getD z.2.1.toNat 0 < 0) then finL F
  else bif decide (l.getD z.2.1.toNat 0 ≥ wh) then finL F
  else bif z.1 then some (LRes.cont (true, IntKind.i64.wrap (z.2.1 + 1), ())) else some (LRes.cont (l.getD z.2.1.toNat 0 == c, IntKind.i64.wrap (z.2.1 + 1), ()))
def plF (l : List Int) (wh c : Int) (F : Option α) : Bool × Int × Unit → Option (LRes (Bool × Int × Unit) α) := fun z =>
  bif decide (z.2.1 < (l.length : Int)) then
    if 0 ≤ z.2.1 ∧ z.2.1 < (l.length : Int) then
      bif decide (z.2.1 > 0) then
        if 0 ≤ IntKind.i64.wrap (z.2.1 - 1) ∧ IntKind.i64.wrap (z.2.1 - 1) < (l.length : Int) then
          bif decide (l.getD z.2.1.toNat 0 ≤ l.getD (IntKind.i64.wrap (z.2.1 - 1)).toNat 0) then finL F else plT l wh c F z
        else none
      else plT l wh c F z
    else none
  else some (LRes.brk 0 (z.1, z.2.1, ()))
def plEnd (N : Nat) (l l2 : List Int) (wh c e : Int) (k : AOut → Option α) : Option α :=
  afterL (iterL N (plF l wh c (k (b1 false))) (e == 7, 0, ())) fun id y => if id = 0 then (bif l == l2 then k (b1 y.1) else k (b1 false)) else none
end
def stp (x u n k : Int) : Int := IntKind.i64.wrap (x + IntKind.i64.wrap (IntKind.i64.wrap ((IntKind.i64.wrap (u - x)).tdiv n) * k))
def stk (n pt : Int) : Int := IntKind.i64.wrap ((IntKind.i64.wrap (n * IntKind.i64.wrap pt)).tdiv 65536)
set_option maxRecDepth 100000 in
theorem iplaces_text (N n0 : Nat) (α : Type) (cx cy sd w h : Int) (pb po : List Int) (x y u v pt : Int) (k : AOut → Option α) : evFn real tab ((twY fsIc spL).env real tab N (n0 + 8)) N Try.f3 α [.agg [.int .i64 cx, .int .i64 cy, .int .i64 sd, .int .i64 w, .int .i64 h, .ro (.int .i64) pb, .ro (.int .i64) po], .agg [.int .i64 x, .int .i64 y], .agg [.int .i64 u, .int .i64 v], .int .u16 pt] k =
    bif decide ((pb.length : Int) > 400) then k (b1 true)
    else bif decide ((po.length : Int) > 400) then k (b1 true)
    else
      bif er2 (tchB cx cy sd w h pb po x y u v) != 0 then
        bif er2 (tchB cx cy sd w h pb po x y u v) == 2 then
          bif er2 (tchB cx cy sd w h pb po u v x y) == 2 then k (b1 (IntKind.i64.wrap (((tcV cx cy sd w h pb po x y u v).length : Int) + ((tcV cx cy sd w h pb po u v x y).length : Int)) == 0)) else k (b1 false)
        else k (b1 false)
      else
        bif er2 (tchB cx cy sd w h pb po u v x y) != 0 then
          bif er2 (tchB cx cy sd w h pb po x y u v) == 2 then
            bif er2 (tchB cx cy sd w h pb po u v x y) == 2 then k (b1 (IntKind.i64.wrap (((tcV cx cy sd w h pb po x y u v).length : Int) + ((tcV cx cy sd w h pb po u v x y).length : Int)) == 0)) else k (b1 false)
          else k (b1 false)
        else
          bif smB (IntKind.i64.wrap (u - x)) && smB (IntKind.i64.wrap (v - y)) then
            bif decide (gcdI (IntKind.i64.wrap (u - x)) (IntKind.i64.wrap (v - y)) > 0) then
              if gcdI (IntKind.i64.wrap (u - x)) (IntKind.i64.wrap (v - y)) = 0 then none
              else if gcdI (IntKind.i64.wrap (u - x)) (IntKind.i64.wrap (v - y)) = 0 then none
              else
                plEnd N (tcV cx cy sd w h pb po x y u v) (tcV cx cy sd w h pb po u v x y) (IntKind.i64.wrap (w * h))
                  (atV cx cy sd w h pb po (stp x u (gcdI (IntKind.i64.wrap (u - x)) (IntKind.i64.wrap (v - y))) (stk (gcdI (IntKind.i64.wrap (u - x)) (IntKind.i64.wrap (v - y))) pt)) (stp y v (gcdI (IntKind.i64.wrap (u - x)) (IntKind.i64.wrap (v - y))) (stk (gcdI (IntKind.i64.wrap (u - x)) (IntKind.i64.wrap (v - y))) pt)))
                  (atE cx cy sd w h pb po (stp x u (gcdI (IntKind.i64.wrap (u - x)) (IntKind.i64.wrap (v - y))) (stk (gcdI (IntKind.i64.wrap (u - x)) (IntKind.i64.wrap (v - y))) pt)) (stp y v (gcdI (IntKind.i64.wrap (u - x)) (IntKind.i64.wrap (v - y))) (stk (gcdI (IntKind.i64.wrap (u - x)) (IntKind.i64.wrap (v - y))) pt))) k
            else plEnd N (tcV cx cy sd w h pb po x y u v) (tcV cx cy sd w h pb po u v x y) (IntKind.i64.wrap (w * h)) (atV cx cy sd w h pb po x y) (atE cx cy sd w h pb po x y) k
          else none := by kernel_rfl

/-- What has been found so far. -/
def fndI (l : List Int) (c : Int) (b : Bool) : Nat → Bool
  | 0 => b
  | i + 1 => bif fndI l c b i then true else l.getD i 0 == c
theorem fnd_mono {l : List Int} {c : Int} {b : Bool} {i : Nat} (h : fndI l c b i = true) : ∀ k, fndI l c b (i + k) = true
  | 0 => h
  | k + 1 => by
    show fndI l c b ((i + k) + 1) = true
    simp only [fndI, fnd_mono h k, cond_true]
theorem plEnd_true {α : Type} {hit : Nat → Bool} {n : Nat} {wh c e : Int} (hn : (n : Int) = wh) (hn2 : n ≤ 65536) (hf : e = 7 ∨ ∃ m : Nat, c = m ∧ m < n ∧ hit m = true) (k : AOut → Option α) : plEnd (n + 1) (whL hit n) (whL hit n) wh c e k = k (b1 true) := by
  have hlen := whL_len hit n
  unfold plEnd
  have key := count_loop (f := plF (whL hit n) wh c (k (b1 false))) (K := fun id y => if id = 0 then (bif whL hit n == whL hit n then k (b1 y.1) else k (b1 false)) else none) (fun i : Nat => (fndI (whL hit n) c (e == 7) i, (i : Int), ())) (whL hit n).length (b := 0) (y := (fndI (whL hit n) c (e == 7) (whL hit n).length, ((whL hit n).length : Int), ())) (fun i hi => ?_) ?_ (N := n + 1) (by omega)
  · refine key.trans ?_
    have hfin : fndI (whL hit n) c (e == 7) (whL hit n).length = true := by
      rcases hf with rfl | ⟨m, rfl, hm, hh⟩
      · have : fndI (whL hit n) c ((7 : Int) == 7) 0 = true := rfl
        have := fnd_mono this (whL hit n).length
        rwa [Nat.zero_add] at this
      · obtain ⟨i, hi, hv⟩ := whL_has hm hh
        have h1 : fndI (whL hit n) m (e == 7) (i + 1) = true := by
          simp only [fndI, hv]
          cases fndI (whL hit n) m (e == 7) i <;> simp
        have := fnd_mono h1 ((whL hit n).length - (i + 1))
        rwa [show i + 1 + ((whL hit n).length - (i + 1)) = (whL hit n).length by omega] at this
    rw [hfin]
    simp
  · obtain ⟨m, hv, hm, _⟩ := whL_at hit n hi
    have hT : plT (whL hit n) wh c (k (b1 false)) (fndI (whL hit n) c (e == 7) i, (i : Int), ()) = some (LRes.cont (fndI (whL hit n) c (e == 7) (i + 1), ((i + 1 : Nat) : Int), ())) := by
      unfold plT
      simp only [Int.toNat_natCast]
      rw [decide_eq_false (by rw [hv]; omega), decide_eq_false (by rw [hv]; omega), i64_in _ (by omega)]
      simp only [cond_false, fndI]
      cases fndI (whL hit n) c (e == 7) i <;> rfl
    unfold plF
    simp only
    rw [decide_eq_true (show (i : Int) < ((whL hit n).length : Int) by omega), cond_true, if_pos ⟨by omega, by omega⟩]
    by_cases h0 : i = 0
    · subst h0
      rw [decide_eq_false (by omega), cond_false]; exact hT
    · have hnx := whL_next hit n (by omega) hi
      rw [decide_eq_true (show (i : Int) > 0 by omega), cond_true, i64_in ((i : Int) - 1) (by omega), if_pos ⟨by omega, by omega⟩, Int.toNat_natCast, show ((i : Int) - 1).toNat = i - 1 by omega, decide_eq_false (by omega), cond_false]
      exact hT
  · unfold plF
    simp only
    rw [decide_eq_false (by omega), cond_false]
/-- A place of a way whose numbers are integers. -/
theorem way_place {x y u v n k P Q : Int} (hP : u - x = n * P) (hQ : v - y = n * Q) (k0 : 0 ≤ k) (k1 : k ≤ n) :
    (u - x) * ((y + Q * k) - y) - (v - y) * ((x + P * k) - x) = 0 ∧ (mn x u ≤ x + P * k ∧ x + P * k ≤ mx x u) ∧ mn y v ≤ y + Q * k ∧ y + Q * k ≤ mx y v := by
  have btw : ∀ a b R : Int, b - a = n * R → mn a b ≤ a + R * k ∧ a + R * k ≤ mx a b := fun a b R e => by
    rcases Int.le_total 0 R with h | h
    · have e1 := Int.mul_nonneg h k0
      have e2 : R * k ≤ R * n := Int.mul_le_mul_of_nonneg_left k1 h
      rw [Int.mul_comm R n] at e2
      unfold mn mx; constructor <;> split <;> omega
    · have e1 : R * k ≤ R * 0 := Int.mul_le_mul_of_nonpos_left h k0
      have e2 : R * n ≤ R * k := Int.mul_le_mul_of_nonpos_left h k1
      rw [Int.mul_comm R n] at e2
      unfold mn mx; constructor <;> split <;> omega
  refine ⟨?_, btw x u P hP, btw y v Q hQ⟩
  rw [hP, hQ, show y + Q * k - y = Q * k by omega, show x + P * k - x = P * k by omega]
  have : n * P * (Q * k) = n * Q * (P * k) := by
    rw [Int.mul_assoc, Int.mul_assoc, Int.mul_left_comm P Q k]
  omega
theorem gcd_parts (a b : Int) : ∃ P Q, a = gcdI a b * P ∧ b = gcdI a b * Q := by
  unfold gcdI
  obtain ⟨P, hP⟩ : ((Nat.gcd a.natAbs b.natAbs : Nat) : Int) ∣ a := Int.ofNat_dvd_left.2 (Nat.gcd_dvd_left _ _)
  obtain ⟨Q, hQ⟩ : ((Nat.gcd a.natAbs b.natAbs : Nat) : Int) ∣ b := Int.ofNat_dvd_left.2 (Nat.gcd_dvd_right _ _)
  exact ⟨P, Q, hP, hQ⟩
theorem stp_eq {x u n k P : Int} (hx : -6553600000 ≤ x ∧ x ≤ 6553600000) (hu : -6553600000 ≤ u ∧ u ≤ 6553600000) (h0 : 0 < n) (hP : u - x = n * P) (k0 : 0 ≤ k) (k1 : k ≤ n) : stp x u n k = x + P * k := by
  have e : (u - x).tdiv n = P := by rw [hP]; exact Int.mul_tdiv_cancel_left _ (by omega)
  have a1 : -13107200000 ≤ P * k ∧ P * k ≤ 13107200000 := by
    rcases Int.le_total 0 P with h | h
    · have e1 := Int.mul_nonneg h k0
      have e2 : P * k ≤ P * n := Int.mul_le_mul_of_nonneg_left k1 h
      rw [Int.mul_comm P n] at e2
      omega
    · have e1 : P * k ≤ P * 0 := Int.mul_le_mul_of_nonpos_left h k0
      have e2 : P * n ≤ P * k := Int.mul_le_mul_of_nonpos_left h k1
      rw [Int.mul_comm P n] at e2
      omega
  have a2 : -13107200000 ≤ P ∧ P ≤ 13107200000 := by
    rcases Int.le_total 0 P with h | h
    · have : 1 * P ≤ n * P := Int.mul_le_mul_of_nonneg_right (by omega) h
      omega
    · have : n * P ≤ 1 * P := Int.mul_le_mul_of_nonpos_right (by omega) h
      omega
  unfold stp
  rw [i64_in (u - x) (by omega), e, i64_in P (by omega), i64_in (P * k) (by omega), i64_in _ (by omega)]
theorem tchB_back (cx cy sd w h : Int) (pb po : List Int) (x y u v : Int) : tchB cx cy sd w h pb po u v x y = tchB cx cy sd w h pb po x y u v := by
  unfold tchB; rw [Bool.and_comm (plcB u v)]
theorem tcL_back (cx cy sd w h x y u v : Int) : tchL cx cy sd w h u v x y = tchL cx cy sd w h x y u v := by
  unfold tchL
  congr 1
  funext n
  exact tou_back ..
/-- Where a place of the way is in a cell, that is touched. -/
theorem found_of (cx cy sd w h : Int) (pb po : List Int) (x y u v s t : Int) (hb : tchB cx cy sd w h pb po x y u v = true) (h0 : (u - x) * (t - y) - (v - y) * (s - x) = 0) (hs : mn x u ≤ s ∧ s ≤ mx x u) (ht : mn y v ≤ t ∧ t ≤ mx y v) :
    atE cx cy sd w h pb po s t = 7 ∨ ∃ m : Nat, atV cx cy sd w h pb po s t = m ∧ m < cels w h ∧ toB cx cy sd w x y u v m = true := by
  simp only [tchB, Bool.and_eq_true, plc_iff] at hb
  obtain ⟨hI, hp, hq⟩ := hb
  have g := ice_is _ _ _ _ _ _ _ hI
  have hst : plcB s t = true := by
    rw [plc_iff]
    have a := mx_in hp.1 hq.1
    have b := mx_in hp.2 hq.2
    omega
  unfold atE atV
  rw [hI, hst]
  cases hi : inC cx cy sd w h s t
  · exact .inl rfl
  · right
    have gs := g.fs; have gw := g.fw
    obtain ⟨l0, l1, _⟩ := cel_in gs.1 gw.1 hi
    obtain ⟨m, hm⟩ := Int.eq_ofNat_of_zero_le l0
    have hc := (cels_le g.fw g.fh).2
    refine ⟨m, hm, by omega, ?_⟩
    rw [← hm]
    exact to_of_place gs.1 gw.1 h0 hs ht hi
theorem places_true (cx cy sd w h : Int) (pb po : List Int) (x y u v pt : Int) (hpt : 0 ≤ pt ∧ pt ≤ 65535) : ∃ N, ∀ α (k : AOut → Option α), evFn real tab ((twY fsIc spL).env real tab N 8) N Try.f3 α [.agg [.int .i64 cx, .int .i64 cy, .int .i64 sd, .int .i64 w, .int .i64 h, .ro (.int .i64) pb, .ro (.int .i64) po], .agg [.int .i64 x, .int .i64 y], .agg [.int .i64 u, .int .i64 v], .int .u16 pt] k = k (b1 true) := by
  refine ⟨cels w h + 1, fun α k => (iplaces_text (cels w h + 1) 0 α cx cy sd w h pb po x y u v pt k).trans ?_⟩
  cases decide ((pb.length : Int) > 400)
  case true => rfl
  cases decide ((po.length : Int) > 400)
  case true => rfl
  simp only [cond_false]
  rw [tchB_back cx cy sd w h pb po x y u v]
  cases hb : tchB cx cy sd w h pb po x y u v
  · have e : tcV cx cy sd w h pb po x y u v = [] := by unfold tcV; rw [hb]; rfl
    have e' : tcV cx cy sd w h pb po u v x y = [] := by unfold tcV; rw [tchB_back, hb]; rfl
    rw [e, e']
    have : (IntKind.i64.wrap ((([] : List Int).length : Int) + (([] : List Int).length : Int)) == 0) = true := by
      rw [i64_in _ (by simp)]; rfl
    rw [this]
    rfl
  · have e : tcV cx cy sd w h pb po x y u v = whL (fun n => toB cx cy sd w x y u v n) (cels w h) := by unfold tcV; rw [hb]; rfl
    have e' : tcV cx cy sd w h pb po u v x y = whL (fun n => toB cx cy sd w x y u v n) (cels w h) := by unfold tcV; rw [tchB_back, hb]; exact tcL_back ..
    have hb' := hb
    simp only [tchB, Bool.and_eq_true, plc_iff] at hb'
    obtain ⟨hI, hp, hq⟩ := hb'
    have g := ice_is _ _ _ _ _ _ _ hI
    obtain ⟨c1, c2⟩ := cels_le g.fw g.fh
    rw [e, e', i64_in (u - x) (by omega), i64_in (v - y) (by omega), i64_in (w * h) (by omega)]
    have s1 : smB (u - x) = true := by simp only [smB, Bool.and_eq_true, decide_eq_true_eq]; omega
    have s2 : smB (v - y) = true := by simp only [smB, Bool.and_eq_true, decide_eq_true_eq]; omega
    rw [s1, s2, show er2 true = 0 from rfl, show ((0 : Int) != 0) = false from rfl, Bool.and_self]
    simp only [cond_false, cond_true]
    obtain ⟨P, Q, hP, hQ⟩ := gcd_parts (u - x) (v - y)
    by_cases h0 : gcdI (u - x) (v - y) > 0
    · rw [decide_eq_true h0, cond_true, if_neg (by omega), if_neg (by omega)]
      have hle : gcdI (u - x) (v - y) ≤ 13107200000 := by
        unfold gcdI at h0 ⊢
        rcases Nat.eq_zero_or_pos (u - x).natAbs with z | z
        · rw [z, Nat.gcd_zero_left]; omega
        · have := Nat.gcd_le_left (v - y).natAbs z; omega
      generalize gcdI (u - x) (v - y) = n at *
      have mm := mul_in (a := n) (b := pt) (A := 13107200000) (B := 65535) ⟨by omega, by omega⟩ hpt
      have hk : stk n pt = n * pt / 65536 := by
        unfold stk
        have a1 := Int.ediv_nonneg mm.1 (show (0 : Int) ≤ 65536 by omega)
        have a2 : n * pt / 65536 ≤ n * pt := Int.ediv_le_self _ mm.1
        rw [i64_in pt (by omega), i64_in (n * pt) (by omega), tdiv_pos mm.1, i64_in _ (by omega)]
      have k0 : 0 ≤ stk n pt := by rw [hk]; exact Int.ediv_nonneg mm.1 (by omega)
      have k1 : stk n pt ≤ n := by
        rw [hk]
        refine Int.ediv_le_of_le_mul (by omega) ?_
        exact Int.mul_le_mul_of_nonneg_left (by omega) (by omega)
      obtain ⟨q1, q2, q3⟩ := way_place hP hQ k0 k1
      rw [stp_eq hp.1 hq.1 h0 hP k0 k1, stp_eq hp.2 hq.2 h0 hQ k0 k1]
      exact plEnd_true c2 c1 (found_of cx cy sd w h pb po x y u v _ _ hb q1 q2 q3) k
    · rw [decide_eq_false h0, cond_false]
      refine plEnd_true c2 c1 (found_of cx cy sd w h pb po x y u v _ _ hb (by rw [Int.sub_self, Int.sub_self, Int.mul_zero, Int.mul_zero]; rfl) ?_ ?_) k
      · unfold mn mx; constructor <;> split <;> omega
      · unfold mn mx; constructor <;> split <;> omega
def iplacesF : List AVal → Option AOut
  | [.agg [.int .i64 cx, .int .i64 cy, .int .i64 sd, .int .i64 w, .int .i64 h, .ro (.int .i64) pb, .ro (.int .i64) po], .agg [.int .i64 x, .int .i64 y], .agg [.int .i64 u, .int .i64 v], .int .u16 pt] => if 0 ≤ pt ∧ pt ≤ 65535 then some (b1 true) else none
  | _ => none
theorem iplaces_ok : FspOk Try.prog 3 (toFsp iplacesF) := tower_Y fsIc_ok spL_ok ⟨Try.func3, fun _ _ => by kernel_rfl⟩ (toFsp_nat _) fun args out hSm hq => by
  replace hq := toFsp_some hq
  unfold iplacesF at hq
  split at hq
  · rename_i cx cy sd w h pb po x y u v pt
    split at hq
    · rename_i hpt
      cases hq
      obtain ⟨N, e⟩ := places_true cx cy sd w h pb po x y u v pt hpt
      exact ⟨N, 8, e AOut some⟩
    · cases hq
  · cases hq
end Go.Proofs.Ytbcjhjidhhecaaa
