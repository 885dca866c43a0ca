/- Parts of the proof, in build order. -/
import Derived.Test.YtnhlnagihokokaaGreatM9
import Derived.Test.YtnhlnagihokokaaGreatM8
namespace Go.Proofs.YtnhlnagihokokaaGreat
open Go.RowKit
/-! Pass and Sweep, where they have no error. -/
noncomputable def ipassOS : Fsp := fun _ args k => match args with
  | [.agg [.int .i64 cx, .int .i64 cy, .int .i64 sd, .int .i64 w, .int .i64 h, .ro (.int .i64) pb, .ro (.int .i64) po], .agg [.int .i64 fl, .int .i64 ke, .int .i64 sw, .int .i64 be, .int .i64 we], .agg [.int .i64 x, .int .i64 y], .agg [.int .i64 u, .int .i64 v]] => bif pasB cx cy sd w h pb po fl ke sw be we x y u v then k (.ret (.tup [.agg [iN cx, iN cy, iN sd, iN w, iN h, .ro (.int .i64) (chgL (fun i => toB cx cy sd w x y u v i) (fun i => wornV i we) pb : List Int), .ro (.int .i64) po], iN 0])) else none
  | _ => none
theorem ipassOS_ok : FspOk Tryz.prog 47 ipassOS := fsp_sim ipassTS_ok (by intro α args k; unfold ipassOS; split <;> simp only [cond_bind, Option.bind_some, Option.bind_none]) fun args out hq => by
  unfold ipassOS at hq
  split at hq
  · rename_i cx cy sd w h pb po fl ke sw be we x y u v
    have hq : (bif pasB cx cy sd w h (pb : List Int) (po : List Int) fl ke sw be we x y u v then some (AOut.ret (.tup [.agg [iN cx, iN cy, iN sd, iN w, iN h, .ro (.int .i64) (chgL (fun i => toB cx cy sd w x y u v i) (fun i => wornV i we) pb : List Int), .ro (.int .i64) po], iN 0])) else none) = some out := hq
    cases hc : pasB cx cy sd w h (pb : List Int) (po : List Int) fl ke sw be we x y u v
    · rw [hc] at hq; cases hq
    · rw [hc] at hq
      cases hq
      refine ⟨_, _, rfl, ?_, .refl _⟩
      show some (icT (pasB cx cy sd w h (pb : List Int) (po : List Int) fl ke sw be we x y u v) cx cy sd w h (chgL (fun i => toB cx cy sd w x y u v i) (fun i => wornV i we) pb) po) = _
      rw [hc]; rfl
  · cases hq
noncomputable def isweepOS : Fsp := fun _ args k => match args with
  | [.agg [.int .i64 cx, .int .i64 cy, .int .i64 sd, .int .i64 w, .int .i64 h, .ro (.int .i64) pb, .ro (.int .i64) po], .agg [.int .i64 x, .int .i64 y], .agg [.int .i64 u, .int .i64 v], .int .i64 b] => bif twB cx cy sd w h pb po x y u v && grnB b then k (.ret (.tup [.agg [iN cx, iN cy, iN sd, iN w, iN h, .ro (.int .i64) pb, .ro (.int .i64) (chgL (fun i => toB cx cy sd w x y u v i) (fun i => moreV i b) po : List Int)], iN 0])) else none
  | _ => none
theorem isweepOS_ok : FspOk Tryz.prog 48 isweepOS := fsp_sim isweepTS_ok (by intro α args k; unfold isweepOS; split <;> simp only [cond_bind, Option.bind_some, Option.bind_none]) fun args out hq => by
  unfold isweepOS at hq
  split at hq
  · rename_i cx cy sd w h pb po x y u v b
    have hq : (bif twB cx cy sd w h (pb : List Int) (po : List Int) x y u v && grnB b then some (AOut.ret (.tup [.agg [iN cx, iN cy, iN sd, iN w, iN h, .ro (.int .i64) pb, .ro (.int .i64) (chgL (fun i => toB cx cy sd w x y u v i) (fun i => moreV i b) po : List Int)], iN 0])) else none) = some out := hq
    cases hc : (twB cx cy sd w h (pb : List Int) (po : List Int) x y u v && grnB b)
    · rw [hc] at hq; cases hq
    · rw [hc] at hq
      cases hq
      refine ⟨_, _, rfl, ?_, .refl _⟩
      show some (icT (twB cx cy sd w h (pb : List Int) (po : List Int) x y u v && grnB b) cx cy sd w h pb (chgL (fun i => toB cx cy sd w x y u v i) (fun i => moreV i b) po)) = _
      rw [hc]; rfl
  · cases hq
noncomputable def fsG8 : FuncId → Option Fsp := fun g =>
  if g = 47 then some ipassOS else
  if g = 48 then some isweepOS else
  fsG7 g
theorem fsG8_ok : FsOk fsG8 :=
  fs_cons ipassOS_ok <|
  fs_cons isweepOS_ok <|
  fsG7_ok
abbrev S20 := Int × Int × Int × Int × Int × Int × Int × Int × Int × Int × Int × Int × Int × List Int × List Int × Int × Int × Int × Int × Int × Unit
noncomputable def gnS {α : Type} (n : Int) (x : S20) (a b c d e : Int) : Option (LRes S20 α) :=
  bif c == 0 && (d == 0 && true) then some (.cont (IntKind.i64.wrap (x.1 + 1), x.2.1, x.2.2.1, x.2.2.2.1, x.2.2.2.2.1, x.2.2.2.2.2.1, x.2.2.2.2.2.2.1, x.2.2.2.2.2.2.2.1, x.2.2.2.2.2.2.2.2.1, x.2.2.2.2.2.2.2.2.2.1, x.2.2.2.2.2.2.2.2.2.2.1, x.2.2.2.2.2.2.2.2.2.2.2.1, x.2.2.2.2.2.2.2.2.2.2.2.2.1, x.2.2.2.2.2.2.2.2.2.2.2.2.2.1, x.2.2.2.2.2.2.2.2.2.2.2.2.2.2.1, a, b, c, d, e, ()))
  else bif pasB x.2.2.2.2.2.2.2.2.1 x.2.2.2.2.2.2.2.2.2.1 x.2.2.2.2.2.2.2.2.2.2.1 x.2.2.2.2.2.2.2.2.2.2.2.1 x.2.2.2.2.2.2.2.2.2.2.2.2.1 x.2.2.2.2.2.2.2.2.2.2.2.2.2.1 x.2.2.2.2.2.2.2.2.2.2.2.2.2.2.1 x.2.1 x.2.2.1 x.2.2.2.1 x.2.2.2.2.1 x.2.2.2.2.2.1 x.2.2.2.2.2.2.1 x.2.2.2.2.2.2.2.1 a b then
    bif decide (n > 0) then
      bif twB x.2.2.2.2.2.2.2.2.1 x.2.2.2.2.2.2.2.2.2.1 x.2.2.2.2.2.2.2.2.2.2.1 x.2.2.2.2.2.2.2.2.2.2.2.1 x.2.2.2.2.2.2.2.2.2.2.2.2.1 (chgL (fun i => toB x.2.2.2.2.2.2.2.2.1 x.2.2.2.2.2.2.2.2.2.1 x.2.2.2.2.2.2.2.2.2.2.1 x.2.2.2.2.2.2.2.2.2.2.2.1 x.2.2.2.2.2.2.1 x.2.2.2.2.2.2.2.1 a b i) (fun i => wornV i x.2.2.2.2.2.1) x.2.2.2.2.2.2.2.2.2.2.2.2.2.1) x.2.2.2.2.2.2.2.2.2.2.2.2.2.2.1 x.2.2.2.2.2.2.1 x.2.2.2.2.2.2.2.1 a b && grnB n then
        some (.cont (IntKind.i64.wrap (x.1 + 1), x.2.1, x.2.2.1, x.2.2.2.1, x.2.2.2.2.1, x.2.2.2.2.2.1, a, b, x.2.2.2.2.2.2.2.2.1, x.2.2.2.2.2.2.2.2.2.1, x.2.2.2.2.2.2.2.2.2.2.1, x.2.2.2.2.2.2.2.2.2.2.2.1, x.2.2.2.2.2.2.2.2.2.2.2.2.1, chgL (fun i => toB x.2.2.2.2.2.2.2.2.1 x.2.2.2.2.2.2.2.2.2.1 x.2.2.2.2.2.2.2.2.2.2.1 x.2.2.2.2.2.2.2.2.2.2.2.1 x.2.2.2.2.2.2.1 x.2.2.2.2.2.2.2.1 a b i) (fun i => wornV i x.2.2.2.2.2.1) x.2.2.2.2.2.2.2.2.2.2.2.2.2.1, chgL (fun i => toB x.2.2.2.2.2.2.2.2.1 x.2.2.2.2.2.2.2.2.2.1 x.2.2.2.2.2.2.2.2.2.2.1 x.2.2.2.2.2.2.2.2.2.2.2.1 x.2.2.2.2.2.2.1 x.2.2.2.2.2.2.2.1 a b i) (fun i => moreV i n) x.2.2.2.2.2.2.2.2.2.2.2.2.2.2.1, a, b, c, d, e, ()))
      else none
    else some (.cont (IntKind.i64.wrap (x.1 + 1), x.2.1, x.2.2.1, x.2.2.2.1, x.2.2.2.2.1, x.2.2.2.2.2.1, a, b, x.2.2.2.2.2.2.2.2.1, x.2.2.2.2.2.2.2.2.2.1, x.2.2.2.2.2.2.2.2.2.2.1, x.2.2.2.2.2.2.2.2.2.2.2.1, x.2.2.2.2.2.2.2.2.2.2.2.2.1, chgL (fun i => toB x.2.2.2.2.2.2.2.2.1 x.2.2.2.2.2.2.2.2.2.1 x.2.2.2.2.2.2.2.2.2.2.1 x.2.2.2.2.2.2.2.2.2.2.2.1 x.2.2.2.2.2.2.1 x.2.2.2.2.2.2.2.1 a b i) (fun i => wornV i x.2.2.2.2.2.1) x.2.2.2.2.2.2.2.2.2.2.2.2.2.1, x.2.2.2.2.2.2.2.2.2.2.2.2.2.2.1, a, b, c, d, e, ()))
  else none
noncomputable def gnF {α : Type} (cx cy sd w h : Int) (pb po : List Int) (fl ke sw be we : Int) (l : List BrI) (m : Int) (R : Option α) (x : S20) : Option (LRes S20 α) :=
  bif decide (x.1 < m) then
    bif !(x.2.2.2.2.2.2.2.2.2.2.2.2.2.2.2.2.2.1 == 0 && (x.2.2.2.2.2.2.2.2.2.2.2.2.2.2.2.2.2.2.1 == 0 && true)) then
      bif l.all brmB then
        bif rgtB cx cy sd w h pb po fl ke sw be we x.2.2.2.2.2.2.2.2.2.2.2.2.2.2.2.1 x.2.2.2.2.2.2.2.2.2.2.2.2.2.2.2.2.1 x.2.2.2.2.2.2.2.2.2.2.2.2.2.2.2.2.2.1 x.2.2.2.2.2.2.2.2.2.2.2.2.2.2.2.2.2.2.1 x.2.2.2.2.2.2.2.2.2.2.2.2.2.2.2.2.2.2.2.1 (strN l x.1) then
          tkStep (slwV cx cy sd w h pb po fl ke sw be we x.2.2.2.2.2.2.2.2.2.2.2.2.2.2.2.1 x.2.2.2.2.2.2.2.2.2.2.2.2.2.2.2.2.1) (bdvV cx cy sd w h pb po fl ke sw be we x.2.2.2.2.2.2.2.2.2.2.2.2.2.2.2.1 x.2.2.2.2.2.2.2.2.2.2.2.2.2.2.2.2.1) x.2.2.2.2.2.2.2.2.2.2.2.2.2.2.2.1 x.2.2.2.2.2.2.2.2.2.2.2.2.2.2.2.2.1 x.2.2.2.2.2.2.2.2.2.2.2.2.2.2.2.2.2.1 x.2.2.2.2.2.2.2.2.2.2.2.2.2.2.2.2.2.2.1 x.2.2.2.2.2.2.2.2.2.2.2.2.2.2.2.2.2.2.2.1 (strN l x.1) (gnS (strN l x.1) x) (finL R)
        else none
      else none
    else some (.brk 0 (x.1, x.2.1, x.2.2.1, x.2.2.2.1, x.2.2.2.2.1, x.2.2.2.2.2.1, x.2.2.2.2.2.2.1, x.2.2.2.2.2.2.2.1, x.2.2.2.2.2.2.2.2.1, x.2.2.2.2.2.2.2.2.2.1, x.2.2.2.2.2.2.2.2.2.2.1, x.2.2.2.2.2.2.2.2.2.2.2.1, x.2.2.2.2.2.2.2.2.2.2.2.2.1, x.2.2.2.2.2.2.2.2.2.2.2.2.2.1, x.2.2.2.2.2.2.2.2.2.2.2.2.2.2.1, x.2.2.2.2.2.2.2.2.2.2.2.2.2.2.2.1, x.2.2.2.2.2.2.2.2.2.2.2.2.2.2.2.2.1, x.2.2.2.2.2.2.2.2.2.2.2.2.2.2.2.2.2.1, x.2.2.2.2.2.2.2.2.2.2.2.2.2.2.2.2.2.2.1, x.2.2.2.2.2.2.2.2.2.2.2.2.2.2.2.2.2.2.2.1, ()))
  else some (.brk 0 (x.1, x.2.1, x.2.2.1, x.2.2.2.1, x.2.2.2.2.1, x.2.2.2.2.2.1, x.2.2.2.2.2.2.1, x.2.2.2.2.2.2.2.1, x.2.2.2.2.2.2.2.2.1, x.2.2.2.2.2.2.2.2.2.1, x.2.2.2.2.2.2.2.2.2.2.1, x.2.2.2.2.2.2.2.2.2.2.2.1, x.2.2.2.2.2.2.2.2.2.2.2.2.1, x.2.2.2.2.2.2.2.2.2.2.2.2.2.1, x.2.2.2.2.2.2.2.2.2.2.2.2.2.2.1, x.2.2.2.2.2.2.2.2.2.2.2.2.2.2.2.1, x.2.2.2.2.2.2.2.2.2.2.2.2.2.2.2.2.1, x.2.2.2.2.2.2.2.2.2.2.2.2.2.2.2.2.2.1, x.2.2.2.2.2.2.2.2.2.2.2.2.2.2.2.2.2.2.1, x.2.2.2.2.2.2.2.2.2.2.2.2.2.2.2.2.2.2.2.1, ()))
abbrev wnErr (e : Int) : AOut := .ret (.tup [.agg [iN 0, iN 0, iN 0, iN 0, iN 0, .nils, .nils], iN e])
noncomputable def gnT {α : Type} (N : Nat) (cx cy sd w h : Int) (pb po : List Int) (fl ke sw be we : Int) (ax ay vx vy sp : Int) (l : List BrI) (m : Int) (R : Option α) (K : Int → Int → Int → Int → Int → List Int → List Int → Option α) : Option α :=
  bif decide (0 < pb.length) && decide (pb.length ≤ 65536) then
    bif decide (0 < po.length) && decide (po.length ≤ 65536) then
      afterL (iterL N (gnF cx cy sd w h pb po fl ke sw be we l m R) (0, fl, ke, sw, be, we, ax, ay, cx, cy, sd, w, h, pb, po, ax, ay, vx, vy, sp, ())) fun id y => if id = 0 then K y.2.2.2.2.2.2.2.2.1 y.2.2.2.2.2.2.2.2.2.1 y.2.2.2.2.2.2.2.2.2.2.1 y.2.2.2.2.2.2.2.2.2.2.2.1 y.2.2.2.2.2.2.2.2.2.2.2.2.1 y.2.2.2.2.2.2.2.2.2.2.2.2.2.1 y.2.2.2.2.2.2.2.2.2.2.2.2.2.2.1 else none
    else none
  else none
set_option maxRecDepth 100000 in
theorem gWorn_text (N n0 : Nat) (α : Type) (cx cy sd w h : Int) (pb po : List Int) (fl ke sw be we : Int) (ax ay vx vy sp : Int) (l : List BrI) (m : Int) (k : AOut → Option α) : evFn real tab ((twY fsG8 spG).env real tab N (n0 + 12)) N Tryz.f14 α [.agg [.int .i64 cx, .int .i64 cy, .int .i64 sd, .int .i64 w, .int .i64 h, .ro (.int .i64) pb, .ro (.int .i64) po], .agg [.int .i64 fl, .int .i64 ke, .int .i64 sw, .int .i64 be, .int .i64 we], .agg [.int .i64 ax, .int .i64 ay, .int .i64 vx, .int .i64 vy, .int .i64 sp], .ro (.recd (.cons (.int .i64) (.cons (.int .i64) (.cons (.int .i64) .nil)))) l, .int .i64 m] k =
 bif !(iceB cx cy sd w h pb po && graB fl ke sw be we && movB ax ay vx vy sp && brsB l) then k (wnErr 2) else bif decide (0 ≤ m) then bif !decide (m ≤ 6000) then k (wnErr 2) else gnT
 N cx cy sd w h pb po fl ke sw be we ax ay vx vy sp l m (k (.ret (.tup [.agg [iN 0, iN 0, iN 0, iN 0, iN 0, .ro (.int .i64) ([] : List Int), .ro (.int .i64) ([] : List Int)], iN
 4]))) fun a b c d e p q => k (.ret (.tup [.agg [iN a, iN b, iN c, iN d, iN e, .ro (.int .i64) p, .ro (.int .i64) q], iN 0])) else k (wnErr 2) := by kernel_rfl
/-! What is worn, plain. -/
abbrev WrA := Nat × (Int × Int) × List Int × List Int
noncomputable def wrUp (cx cy sd w we : Int) (l : List BrI) (a : WrA) (s : St5) : WrA :=
  bif z5 s then (a.1 + 1, a.2)
  else (a.1 + 1, (s.1, s.2.1), chgL (fun i => toB cx cy sd w a.2.1.1 a.2.1.2 s.1 s.2.1 i) (fun i => wornV i we) a.2.2.1, bif decide (strN l a.1 > 0) then chgL (fun i => toB cx cy sd w a.2.1.1 a.2.1.2 s.1 s.2.1 i) (fun i => moreV i (strN l a.1)) a.2.2.2 else a.2.2.2)
theorem worn_grn {we : Int} (hw : 0 ≤ we ∧ we ≤ 1000) {z : Int} (hz : grnB z = true) : grnB (wornV z we) = true := by
  have h := in_dec.1 hz
  refine in_dec.2 ?_
  unfold wornV
  rw [i64_in (z - we) (by omega)]
  split <;> omega
theorem more_grn {n : Int} (hn : 0 ≤ n ∧ n ≤ 1000) {z : Int} (hz : grnB z = true) : grnB (moreV z n) = true := by
  have h := in_dec.1 hz
  refine in_dec.2 ?_
  unfold moreV
  rw [i64_in (z + n) (by omega)]
  split <;> omega
theorem mov_plc0 {s : St5} (h : mov5 s = true) : plcB s.1 s.2.1 = true := (plc_iff ..).2 (mov_iff.1 h).1
theorem chg_grn {hit : Nat → Bool} {f : Int → Int} {l : List Int} (h : l.all grnB = true) (hf : ∀ z, grnB z = true → grnB (f z) = true) : (chgL hit f l).all grnB = true := by
  unfold chgL
  rw [List.all_map]
  refine List.all_eq_true.2 fun i hi => ?_
  have hlt := List.mem_range.1 hi
  have hg : grnB (l.getD i 0) = true := by
    rw [List.getD_eq_getElem?_getD, List.getElem?_eq_getElem hlt]
    exact List.all_eq_true.1 h _ (List.getElem_mem hlt)
  show grnB (bif hit i then f (l.getD i 0) else l.getD i 0) = true
  cases hit i
  · exact hg
  · exact hf _ hg
theorem ice_swap {cx cy sd w h : Int} {pb po pb' po' : List Int} (hi : iceB cx cy sd w h pb po = true) (l1 : pb'.length = pb.length) (l2 : po'.length = po.length) (g1 : pb'.all grnB = true) (g2 : po'.all grnB = true) : iceB cx cy sd w h pb' po' = true := by
  unfold iceB at hi ⊢
  rw [l1, l2, g1, g2]
  simp only [Bool.and_eq_true] at hi ⊢
  exact ⟨hi.1, by simp⟩
structure WrI (cx cy sd w h : Int) (i : Nat) (a : WrA) (s : St5) : Prop where
  i : a.1 = i
  mov : mov5 s = true
  at' : plcB a.2.1.1 a.2.1.2 = true
  ice : iceB cx cy sd w h a.2.2.1 a.2.2.2 = true
theorem wr_next {cx cy sd w h we : Int} {l : List BrI} {i : Nat} {a : WrA} {s s' : St5} (v : WrI cx cy sd w h i a s) (hw : 0 ≤ we ∧ we ≤ 1000) (hl : l.all brmB = true) (hm : mov5 s' = true) : WrI cx cy sd w h (i + 1) (wrUp cx cy sd w we l a s') s' := by
  have g := ice_is _ _ _ _ _ _ _ v.ice
  have hn := str_in hl (a.1 : Int)
  unfold wrUp
  cases z5 s'
  · simp only [cond_false]
    refine ⟨by show a.1 + 1 = i + 1; rw [v.i], hm, mov_plc0 hm, ?_⟩
    simp only
    refine ice_swap v.ice (chg_len ..) ?_ (chg_grn g.pg fun z hz => worn_grn hw hz) ?_
    · cases decide (strN l (a.1 : Int) > 0)
      · rfl
      · simp only [cond_true]; exact chg_len ..
    · cases decide (strN l (a.1 : Int) > 0)
      · exact g.og
      · exact chg_grn g.og fun z hz => more_grn hn hz
  · exact ⟨by show a.1 + 1 = i + 1; rw [v.i], hm, v.at', v.ice⟩
def st20 (cx cy sd w h : Int) (pb po : List Int) (fl ke sw be we : Int) (i : Nat) (a : WrA) (s : St5) : S20 := ((i : Int), fl, ke, sw, be, we, a.2.1.1, a.2.1.2, cx, cy, sd, w, h, a.2.2.1, a.2.2.2, s.1, s.2.1, s.2.2.1, s.2.2.2.1, s.2.2.2.2, ())
theorem gnS_fin {α : Type} (cx cy sd w h : Int) (pb po : List Int) (fl ke sw be we : Int) (l : List BrI) (hl : l.all brmB = true) (hg : graB fl ke sw be we = true) (i : Nat) (hi : i < 6000) (a : WrA) (s s' : St5) (v : WrI cx cy sd w h i a s) (hm : mov5 s' = true) : gnS (α := α) (strN l (i : Int)) (st20 cx cy sd w h pb po fl ke sw be we i a s) s'.1 s'.2.1 s'.2.2.1 s'.2.2.2.1 s'.2.2.2.2 = some (.cont (st20 cx cy sd w h pb po fl ke sw be we (i + 1) (wrUp cx cy sd w we l a s') s')) := by
  have e2 : IntKind.i64.wrap ((i : Int) + 1) = ((i + 1 : Nat) : Int) := by rw [i64_in _ (by omega)]; rfl
  have ei := v.i
  subst ei
  have hn := str_in hl (a.1 : Int)
  have gi := ice_is _ _ _ _ _ _ _ v.ice
  have gr := gra_is _ _ _ _ _ hg
  have hps : plcB s'.1 s'.2.1 = true := mov_plc0 hm
  have hP : pasB cx cy sd w h a.2.2.1 a.2.2.2 fl ke sw be we a.2.1.1 a.2.1.2 s'.1 s'.2.1 = true := by unfold pasB; rw [v.ice, hg, v.at', hps]; rfl
  have hT : (twB cx cy sd w h (chgL (fun i => toB cx cy sd w a.2.1.1 a.2.1.2 s'.1 s'.2.1 i) (fun i => wornV i we) a.2.2.1) a.2.2.2 a.2.1.1 a.2.1.2 s'.1 s'.2.1 && grnB (strN l (a.1 : Int))) = true := by
    unfold twB
    rw [ice_swap v.ice (chg_len ..) rfl (chg_grn gi.pg fun z hz => worn_grn gr.we hz) gi.og, v.at', hps, show grnB (strN l (a.1 : Int)) = true from in_dec.2 hn]; rfl
  unfold gnS st20 wrUp
  simp only [e2]
  rw [hP, hT]
  show (bif z5 s' then _ else _) = _
  cases z5 s'
  · cases decide (strN l (a.1 : Int) > 0) <;> rfl
  · rfl
theorem gnT_fin {α : Type} (cx cy sd w h : Int) (pb po : List Int) (fl ke sw be we : Int) (ax ay vx vy sp : Int) (l : List BrI) (m : Int) (hi : iceB cx cy sd w h pb po = true) (hg : graB fl ke sw be we = true) (hm : movB ax ay vx vy sp = true) (hl : l.all brmB = true) (h0 : 0 ≤ m ∧ m ≤ 6000) (N : Nat) (hN : m.toNat < N) (R : Option α) (K : Int → Int → Int → Int → Int → List Int → List Int → Option α) :
    gnT N cx cy sd w h pb po fl ke sw be we ax ay vx vy sp l m R K = match gRL cx cy sd w h pb po fl ke sw be we ax ay vx vy sp l m with | none => R | some L => K cx cy sd w h (L.foldl (wrUp cx cy sd w we l) (0, (ax, ay), pb, po)).2.2.1 (L.foldl (wrUp cx cy sd w we l) (0, (ax, ay), pb, po)).2.2.2 := by
  have gi := ice_is _ _ _ _ _ _ _ hi
  have gr := gra_is _ _ _ _ _ hg
  have mm := mul_in (a := w) (b := h) (A := 256) (B := 256) ⟨by have := gi.fw; omega, gi.fw.2⟩ ⟨by have := gi.fh; omega, gi.fh.2⟩
  have mp : 1 * 1 ≤ w * h := Int.mul_le_mul gi.fw.1 gi.fh.1 (by omega) (by have := gi.fw; omega)
  have p1 := gi.pl
  have p2 := gi.ol
  unfold gnT
  rw [decide_eq_true (show 0 < pb.length by omega), decide_eq_true (show pb.length ≤ 65536 by omega), decide_eq_true (show 0 < po.length by omega), decide_eq_true (show po.length ≤ 65536 by omega)]
  simp only [Bool.and_self, cond_true]
  refine (run_loop (S := St5) (A := WrA) (gnx cx cy sd w h pb po fl ke sw be we l) z5 (st20 cx cy sd w h pb po fl ke sw be we) (wrUp cx cy sd w we l) R (b := 0) (M := m.toNat) (WrI cx cy sd w h) (fun i a s hM hv hz => ?_) (fun i a s hM hv hz => ?_) (fun a s hv => ?_) m.toNat 0 (0, (ax, ay), pb, po) (ax, ay, vx, vy, sp) (by omega) ⟨rfl, hm, mov_plc0 (s := (ax, ay, vx, vy, sp)) hm, hi⟩ N hN).trans ?_
  · have e1 : decide (((i : Nat) : Int) < m) = true := decide_eq_true (by omega)
    have e : gnF cx cy sd w h pb po fl ke sw be we l m R (st20 cx cy sd w h pb po fl ke sw be we i a s) = match gnx cx cy sd w h pb po fl ke sw be we l i s with | none => finL R | some s' => gnS (strN l (i : Int)) (st20 cx cy sd w h pb po fl ke sw be we i a s) s'.1 s'.2.1 s'.2.2.1 s'.2.2.2.1 s'.2.2.2.2 := by
      unfold gnF
      show (bif decide (((i : Nat) : Int) < m) then (bif !(z5 s) then (bif l.all brmB then (bif rgtB cx cy sd w h pb po fl ke sw be we s.1 s.2.1 s.2.2.1 s.2.2.2.1 s.2.2.2.2 (strN l (i : Int)) then tkStep (slwV cx cy sd w h pb po fl ke sw be we s.1 s.2.1) (bdvV cx cy sd w h pb po fl ke sw be we s.1 s.2.1) s.1 s.2.1 s.2.2.1 s.2.2.2.1 s.2.2.2.2 (strN l (i : Int)) (gnS (strN l (i : Int)) (st20 cx cy sd w h pb po fl ke sw be we i a s)) (finL R) else none) else none) else _) else _) = _
      rw [e1, hz, hl, rgt5 cx cy sd w h pb po fl ke sw be we l i s hi hg hl hv.mov]
      exact gnx_step cx cy sd w h pb po fl ke sw be we l i s _ _
    rw [e]
    refine ⟨fun hn => by rw [hn], fun s' hn => ?_⟩
    have hm' := gnx_mov cx cy sd w h pb po fl ke sw be we l i s s' hv.mov hn
    refine ⟨?_, wr_next hv gr.we hl hm'⟩
    rw [hn]
    exact gnS_fin cx cy sd w h pb po fl ke sw be we l hl hg i (by omega) a s s' hv hm'
  · have e1 : decide (((i : Nat) : Int) < m) = true := decide_eq_true (by omega)
    unfold gnF
    show (bif decide (((i : Nat) : Int) < m) then (bif !(z5 s) then _ else some (LRes.brk 0 (st20 cx cy sd w h pb po fl ke sw be we i a s))) else _) = _
    rw [e1, hz]; rfl
  · have e1 : decide (((m.toNat : Nat) : Int) < m) = false := decide_eq_false (by omega)
    unfold gnF
    show (bif decide (((m.toNat : Nat) : Int) < m) then _ else some (LRes.brk 0 (st20 cx cy sd w h pb po fl ke sw be we m.toNat a s))) = _
    rw [e1]; rfl
  · unfold gRL
    cases runL (gnx cx cy sd w h pb po fl ke sw be we l) z5 m.toNat 0 (ax, ay, vx, vy, sp) <;> rfl
noncomputable def wnP (we : Int) (o : Option (List St5)) (cx cy sd w : Int) (pb po : List Int) (ax ay : Int) (l : List BrI) : List Int := match o with | none => [] | some L => (L.foldl (wrUp cx cy sd w we l) (0, (ax, ay), pb, po)).2.2.1
noncomputable def wnQ (we : Int) (o : Option (List St5)) (cx cy sd w : Int) (pb po : List Int) (ax ay : Int) (l : List BrI) : List Int := match o with | none => [] | some L => (L.foldl (wrUp cx cy sd w we l) (0, (ax, ay), pb, po)).2.2.2
def isS {S : Type} (o : Option S) : Bool := match o with | none => false | some _ => true
noncomputable def wnO (c : Bool) (o : Option (List St5)) (cx cy sd w h : Int) (pb po : List Int) (we ax ay : Int) (l : List BrI) : AOut := .ret (.tup [.agg [iN (selI (c && isS o) cx), iN (selI (c && isS o) cy), iN (selI (c && isS o) sd), iN (selI (c && isS o) w), iN (selI (c && isS o) h), .ro (.int .i64) (selL c (wnP we o cx cy sd w pb po ax ay l)), .ro (.int .i64) (selL c (wnQ we o cx cy sd w pb po ax ay l))], iN (rnZ c o)])
theorem gWorn_fin (cx cy sd w h : Int) (pb po : List Int) (fl ke sw be we : Int) (ax ay vx vy sp : Int) (l : List BrI) (m : Int) (hs : ∀ qSm ∈ ([.agg [.int .i64 cx, .int .i64 cy, .int .i64 sd, .int .i64 w, .int .i64 h, .ro (.int .i64) pb, .ro (.int .i64) po], .agg [.int .i64 fl, .int .i64 ke, .int .i64 sw, .int .i64 be, .int .i64 we], .agg [.int .i64 ax, .int .i64 ay, .int .i64 vx, .int .i64 vy, .int .i64 sp], .ro (.recd (.cons (.int .i64) (.cons (.int .i64) (.cons (.int .i64) .nil)))) l, .int .i64 m] : List AVal), Sm qSm) : ∃ N n, ∀ α (k : AOut → Option α), evFn real tab ((twY fsG8 spG).env real tab N n) N Tryz.f14 α [.agg [.int .i64 cx, .int .i64 cy, .int .i64 sd, .int .i64 w, .int .i64 h, .ro (.int .i64) pb, .ro (.int .i64) po], .agg [.int .i64 fl, .int .i64 ke, .int .i64 sw, .int .i64 be, .int .i64 we], .agg [.int .i64 ax, .int .i64 ay, .int .i64 vx, .int .i64 vy, .int .i64 sp], .ro (.recd (.cons (.int .i64) (.cons (.int .i64) (.cons (.int .i64) .nil)))) l, .int .i64 m] k = bif rnB cx cy sd w h pb po fl ke sw be we ax ay vx vy sp l m then k (wnO true (gRL cx cy sd w h pb po fl ke sw be we ax ay vx vy sp l m) cx cy sd w h pb po we ax ay l) else k (wnErr 2) := by
  refine ⟨m.toNat + 1, 12, fun α k => (gWorn_text (m.toNat + 1) 0 α cx cy sd w h pb po fl ke sw be we ax ay vx vy sp l m k).trans ?_⟩
  unfold rnB tckB
  cases hi : iceB cx cy sd w h pb po
  · rfl
  cases hg : graB fl ke sw be we
  · rfl
  cases hm : movB ax ay vx vy sp
  · rfl
  cases hb : brsB l
  · rfl
  cases h1 : decide (0 ≤ m)
  · rfl
  cases h2 : decide (m ≤ 6000)
  · rfl
  have hb' := hb
  unfold brsB at hb'
  rw [Bool.and_eq_true] at hb'
  simp only [Bool.and_self, Bool.not_true, cond_true, cond_false]
  refine (gnT_fin cx cy sd w h pb po fl ke sw be we ax ay vx vy sp l m hi hg hm hb'.2 ⟨of_decide_eq_true h1, of_decide_eq_true h2⟩ (m.toNat + 1) (by omega) _ _).trans ?_
  cases gRL cx cy sd w h pb po fl ke sw be we ax ay vx vy sp l m <;> rfl
noncomputable def gWornS : Fsp := fun _ args k => match args with
  | [.agg [.int .i64 cx, .int .i64 cy, .int .i64 sd, .int .i64 w, .int .i64 h, .ro (.int .i64) pb, .ro (.int .i64) po], .agg [.int .i64 fl, .int .i64 ke, .int .i64 sw, .int .i64 be, .int .i64 we], .agg [.int .i64 ax, .int .i64 ay, .int .i64 vx, .int .i64 vy, .int .i64 sp], .ro (.recd (.cons (.int .i64) (.cons (.int .i64) (.cons (.int .i64) .nil)))) l, .int .i64 m] => bif rnB cx cy sd w h pb po fl ke sw be we ax ay vx vy sp l m then k (wnO true (gRL cx cy sd w h pb po fl ke sw be we ax ay vx vy sp l m) cx cy sd w h pb po we ax ay l) else k (wnErr 2)
  | _ => none
theorem gWornS_ok : FspOk Tryz.prog 14 gWornS := tower_Y fsG8_ok spG_ok ⟨Tryz.func14, fun _ _ => by kernel_rfl⟩ (by intro α args k; unfold gWornS; split <;> simp only [cond_bind, Option.bind_some, Option.bind_none]) fun args out hSm hEq => by
  unfold gWornS at hEq
  split at hEq
  · rename_i cx cy sd w h pb po fl ke sw be we ax ay vx vy sp l m
    obtain ⟨N, n, e⟩ := gWorn_fin cx cy sd w h pb po fl ke sw be we ax ay vx vy sp l m hSm
    exact ⟨N, n, (e AOut some).trans hEq⟩
  · cases hEq
noncomputable def gWornTS : Fsp := fun _ args k => match args with
  | [.agg [.int .i64 cx, .int .i64 cy, .int .i64 sd, .int .i64 w, .int .i64 h, .ro (.int .i64) pb, .ro (.int .i64) po], .agg [.int .i64 fl, .int .i64 ke, .int .i64 sw, .int .i64 be, .int .i64 we], .agg [.int .i64 ax, .int .i64 ay, .int .i64 vx, .int .i64 vy, .int .i64 sp], .ro (.recd (.cons (.int .i64) (.cons (.int .i64) (.cons (.int .i64) .nil)))) l, .int .i64 m] => k (wnO (rnB cx cy sd w h pb po fl ke sw be we ax ay vx vy sp l m) (gRL cx cy sd w h pb po fl ke sw be we ax ay vx vy sp l m) cx cy sd w h pb po we ax ay l)
  | _ => none
theorem wn_tot (c : Bool) (o : Option (List St5)) (cx cy sd w h : Int) (pb po : List Int) (we ax ay : Int) (l : List BrI) : ∃ v v', wnO c o cx cy sd w h pb po we ax ay l = .ret v' ∧ (bif c then some (wnO true o cx cy sd w h pb po we ax ay l) else some (wnErr 2)) = some (.ret v) ∧ SimV v v' := by
  cases c
  · exact ⟨_, _, rfl, rfl, simV_tup ⟨simV_agg ⟨.refl _, .refl _, .refl _, .refl _, .refl _, simV_nils _, simV_nils _, trivial⟩, .refl _, trivial⟩⟩
  · exact ⟨_, _, rfl, rfl, .refl _⟩
theorem gWornTS_ok : FspOk Tryz.prog 14 gWornTS := fsp_sim gWornS_ok (by intro α args k; unfold gWornTS; split <;> rfl) fun args out hq => by
  unfold gWornTS at hq
  split at hq
  · rename_i cx cy sd w h pb po fl ke sw be we ax ay vx vy sp l m
    cases hq
    obtain ⟨v1, v2, e1, e2, e3⟩ := wn_tot (rnB cx cy sd w h pb po fl ke sw be we ax ay vx vy sp l m) (gRL cx cy sd w h pb po fl ke sw be we ax ay vx vy sp l m) cx cy sd w h pb po we ax ay l
    refine ⟨v1, v2, e1, ?_, e3⟩
    rw [← e2]
    rfl
  · cases hq
end Go.Proofs.YtnhlnagihokokaaGreat

namespace Go.Proofs.YtnhlnagihokokaaGreat
open Go.RowKit
/-! Roots, open to evaluation. -/
def rtUpC (a how : Int) : Bool := if how = 2 then !(rtC a * rtC a == a) else if how = 3 then decide ((2 * rtC a + 1) * (2 * rtC a + 1) ≤ 4 * a) else false
def rtNC (a how : Int) : Int := rtC a + (bif rtUpC a how then 1 else 0)
def rootVC (a how : Int) : Int := bif rootB a how then (bif ngB a then 0 else fxV false (rtNC (a * 65536) how)) else 0
def rootEC (a how : Int) : Int := bif rootB a how then (bif ngB a then 11 else fxE (rtNC (a * 65536) how)) else 2
def frootCS : Fsp := fun _ args k => match args with
  | [.int .i64 x, .int .i64 how] => k (i2 (rootVC x how) (rootEC x how))
  | _ => none
theorem frootCS_ok : FspOk Tryz.prog 35 frootCS := by
  have e : frootCS = frootS := by
    unfold frootCS frootS rootVC rootEC rtNC rtUpC rootV rootE rtN rtUp
    rw [rt_C]
    rfl
  rw [e]; exact frootS_ok
end Go.Proofs.YtnhlnagihokokaaGreat

namespace Go.Proofs.YtnhlnagihokokaaGreat
open Go.RowKit
noncomputable def fsTs : FuncId → Option Fsp := fun g =>
  if g = 35 then some frootCS else
  fsG7 g
theorem fsTs_ok : FsOk fsTs :=
  fs_cons frootCS_ok <|
  fsG7_ok
theorem tsound_text (α : Type) (k : AOut → Option α) : evFn real tab ((twY fsTs spL).env real tab 8 8) 8 Tryz.f11 α [] k = k (b1 true) := by kernel_rfl
theorem tsound_fin  (hs : ∀ qSm ∈ ([] : List AVal), Sm qSm) : ∃ N n, ∀ α (k : AOut → Option α), evFn real tab ((twY fsTs spL).env real tab N n) N Tryz.f11 α [] k = k (b1 true) := by
  exact ⟨8, 8, fun α k => tsound_text α k⟩
noncomputable def tsoundS : Fsp := fun _ args k => match args with
  | [] => k (b1 true)
  | _ => none
theorem tsoundS_ok : FspOk Tryz.prog 11 tsoundS := tower_Y fsTs_ok spL_ok ⟨Tryz.func11, fun _ _ => by kernel_rfl⟩ (by intro α args k; unfold tsoundS; split <;> rfl) fun args out hSm hEq => by
  unfold tsoundS at hEq
  split at hEq
  · skip
    obtain ⟨N, n, e⟩ := tsound_fin  hSm
    exact ⟨N, n, (e AOut some).trans hEq⟩
  · cases hEq
noncomputable def fsTe : FuncId → Option Fsp := fun g =>
  if g = 11 then some tsoundS else
  if g = 12 then some gRunS else
  if g = 13 then some gWayS else
  if g = 14 then some gWornTS else
  if g = 15 then some iatS else
  if g = 16 then some itouchedS else
  fsG7 g
theorem fsTe_ok : FsOk fsTe :=
  fs_cons tsoundS_ok <|
  fs_cons gRunS_ok <|
  fs_cons gWayS_ok <|
  fs_cons gWornTS_ok <|
  fs_cons iatS_ok <|
  fs_cons itouchedS_ok <|
  fsG7_ok
abbrev T3e := Int × List Bool × List Bool × Unit
abbrev T2e := Int × List Bool × Unit
abbrev Q3e := List Int × List Int × Int × Unit
def prvI (i : Int) : Int := if 0 < IntKind.i64.wrap (i - 1) then IntKind.i64.wrap (i - 1) else 0
def teI {β : Type} (TC : List Int) (i : Int) (x : T2e) : Option (LRes T2e β) :=
  bif decide (x.1 < (TC.length : Int)) then
    if 0 ≤ x.1 ∧ x.1 < (TC.length : Int) then
      bif decide (i > 0) then
        if 0 ≤ TC.getD x.1.toNat 0 ∧ TC.getD x.1.toNat 0 < (x.2.1.length : Int) then some (.cont (IntKind.i64.wrap (x.1 + 1), x.2.1.set (TC.getD x.1.toNat 0).toNat true, ())) else none
      else if 0 ≤ TC.getD x.1.toNat 0 ∧ TC.getD x.1.toNat 0 < (x.2.1.length : Int) then
        if 0 ≤ TC.getD x.1.toNat 0 ∧ TC.getD x.1.toNat 0 < (x.2.1.length : Int) then some (.cont (IntKind.i64.wrap (x.1 + 1), x.2.1.set (TC.getD x.1.toNat 0).toNat (x.2.1.getD (TC.getD x.1.toNat 0).toNat false), ())) else none
      else none
    else none
  else some (.brk 2 (x.1, x.2.1, ()))
section
variable {α : Type} (cx cy sd w h : Int) (pb po : List Int) (W : List SpI)
def teJ (N : Nat) (R : Option α) (inn : List Bool) (x : T3e) : Option (LRes T3e α) :=
  if 0 ≤ prvI x.1 ∧ prvI x.1 < (W.length : Int) then
    bif er2 (twB cx cy sd w h pb po (W.getD (prvI x.1).toNat spD).1 (W.getD (prvI x.1).toNat spD).2.1 (W.getD x.1.toNat spD).1 (W.getD x.1.toNat spD).2.1) != 0 then finL R
    else afterL (iterL N (teI (tcV cx cy sd w h pb po (W.getD (prvI x.1).toNat spD).1 (W.getD (prvI x.1).toNat spD).2.1 (W.getD x.1.toNat spD).1 (W.getD x.1.toNat spD).2.1) x.1) (0, x.2.2.1, ())) fun id y => if id = 2 then some (.cont (IntKind.i64.wrap (x.1 + 1), inn, y.2.1, ())) else none
  else none
def teK (N : Nat) (R : Option α) (x : T3e) : Option (LRes T3e α) :=
  bif decide (x.1 < (W.length : Int)) then
    if 0 ≤ x.1 ∧ x.1 < (W.length : Int) then
      bif atE cx cy sd w h pb po (W.getD x.1.toNat spD).1 (W.getD x.1.toNat spD).2.1 == 0 then
        if 0 ≤ atV cx cy sd w h pb po (W.getD x.1.toNat spD).1 (W.getD x.1.toNat spD).2.1 ∧ atV cx cy sd w h pb po (W.getD x.1.toNat spD).1 (W.getD x.1.toNat spD).2.1 < (x.2.1.length : Int) then
          teJ cx cy sd w h pb po W N R (x.2.1.set (atV cx cy sd w h pb po (W.getD x.1.toNat spD).1 (W.getD x.1.toNat spD).2.1).toNat true) x
        else none
      else teJ cx cy sd w h pb po W N R x.2.1 x
    else none
  else some (.brk 0 (x.1, x.2.1, x.2.2.1, ()))
end
def tePb (o : List Int) (c : Int) : Int := (IntKind.i64.wrap (o.getD (c.tmod (o.length : Int)).toNat 0)).tmod 1001
def tePo (o : List Int) (c : Int) : Int := (IntKind.i64.wrap (IntKind.i64.wrap ((IntKind.i64.wrap (o.getD (c.tmod (o.length : Int)).toNat 0)).tdiv 64) + c)).tmod 1001
def teO {α : Type} (o : List Int) (IN : List Bool) (x : Q3e) : Option (LRes Q3e α) :=
  if 0 ≤ x.2.2.1 ∧ x.2.2.1 < (IN.length : Int) then
    bif !IN.getD x.2.2.1.toNat false then
      bif decide ((o.length : Int) > 0) then
        if (o.length : Int) = 0 then none
        else if 0 ≤ x.2.2.1.tmod (o.length : Int) ∧ x.2.2.1.tmod (o.length : Int) < (o.length : Int) then
          if 0 ≤ x.2.2.1 ∧ x.2.2.1 < (x.1.length : Int) then
            if 0 ≤ x.2.2.1 ∧ x.2.2.1 < (x.2.1.length : Int) then some (.cont (x.1.set x.2.2.1.toNat (tePb o x.2.2.1), x.2.1.set x.2.2.1.toNat (tePo o x.2.2.1), IntKind.i64.wrap (x.2.2.1 + 1), ()))
            else none
          else none
        else none
      else some (.cont (x.1, x.2.1, IntKind.i64.wrap (x.2.2.1 + 1), ()))
    else some (.cont (x.1, x.2.1, IntKind.i64.wrap (x.2.2.1 + 1), ()))
  else none
def teP {α : Type} (pb po WP WQ o : List Int) (IN TO : List Bool) (R : Option α) (x : Q3e) : Option (LRes Q3e α) :=
  bif decide (x.2.2.1 < (IN.length : Int)) then
    if 0 ≤ x.2.2.1 ∧ x.2.2.1 < (TO.length : Int) then
      bif !TO.getD x.2.2.1.toNat false then
        if 0 ≤ x.2.2.1 ∧ x.2.2.1 < (WP.length : Int) then
          if 0 ≤ x.2.2.1 ∧ x.2.2.1 < (pb.length : Int) then
            bif WP.getD x.2.2.1.toNat 0 != pb.getD x.2.2.1.toNat 0 then finL R
            else if 0 ≤ x.2.2.1 ∧ x.2.2.1 < (WQ.length : Int) then
              if 0 ≤ x.2.2.1 ∧ x.2.2.1 < (po.length : Int) then
                bif WQ.getD x.2.2.1.toNat 0 != po.getD x.2.2.1.toNat 0 then finL R
                else teO o IN x
              else none
            else none
          else none
        else none
      else teO o IN x
    else none
  else some (.brk 4 (x.1, x.2.1, x.2.2.1, ()))
noncomputable def teE (c : Bool) (p : Option (List St5)) (d : Bool) (q : Option (List St5)) (s : St5) : Bool :=
  rnX c p s == rnX d q s && (rnY c p s == rnY d q s && true) && (rnU c p s == rnU d q s && (rnV c p s == rnV d q s && true) && (rnS c p s == rnS d q s && true))
section
variable {α : Type} (cx cy sd w h : Int) (pb po : List Int) (fl ke sw be we ax ay vx vy sp : Int) (l : List BrI) (m : Int) (o : List Int)
noncomputable def teT (N : Nat) (W : List SpI) (WP WQ : List Int) (k : AOut → Option α) : Option α :=
  if 0 ≤ (pb.length : Int) ∧ (pb.length : Int) ≤ (pb.length : Int) ∧ (pb.length : Int) * ((1 : Nat) : Int) ≤ (room : Int) then
    if 0 ≤ (pb.length : Int) ∧ (pb.length : Int) ≤ (pb.length : Int) ∧ (pb.length : Int) * ((1 : Nat) : Int) ≤ (room : Int) then
      afterL (iterL N (teK cx cy sd w h pb po W N (k (b1 false))) (0, List.replicate (pb.length : Int).toNat false, List.replicate (pb.length : Int).toNat false, ())) fun id y =>
        if id = 0 then
          if (List.length ([] : List Int) + pb.length) * 8 ≤ room then
            if (List.length ([] : List Int) + po.length) * 8 ≤ room then
              afterL (iterL N (teP pb po WP WQ o y.2.1 y.2.2.1 (k (b1 false))) ([] ++ pb, [] ++ po, 0, ())) fun id y =>
                if id = 4 then
                  bif rnZ (rnB cx cy sd w h y.1 y.2.1 fl ke sw be we ax ay vx vy sp l m) (gRL cx cy sd w h y.1 y.2.1 fl ke sw be we ax ay vx vy sp l m) == 0 then
                    bif teE (rnB cx cy sd w h y.1 y.2.1 fl ke sw be we ax ay vx vy sp l m) (gRL cx cy sd w h y.1 y.2.1 fl ke sw be we ax ay vx vy sp l m) (rnB cx cy sd w h pb po fl ke sw be we ax ay vx vy sp l m) (gRL cx cy sd w h pb po fl ke sw be we ax ay vx vy sp l m) (ax, ay, vx, vy, sp) then
                      bif rnN (rnB cx cy sd w h y.1 y.2.1 fl ke sw be we ax ay vx vy sp l m) (gRL cx cy sd w h y.1 y.2.1 fl ke sw be we ax ay vx vy sp l m) == rnN (rnB cx cy sd w h pb po fl ke sw be we ax ay vx vy sp l m) (gRL cx cy sd w h pb po fl ke sw be we ax ay vx vy sp l m) then k (b1 true)
                      else k (b1 false)
                    else k (b1 false)
                  else k (b1 false)
                else none
            else none
          else none
        else none
    else none
  else none
noncomputable def teX (N : Nat) (k : AOut → Option α) : Option α :=
  let c := rnB cx cy sd w h pb po fl ke sw be we ax ay vx vy sp l m
  let g := gRL cx cy sd w h pb po fl ke sw be we ax ay vx vy sp l m
  let F := bif rnZ c g == rnZ (c && wyB 1) g then (bif rnZ c g == rnZ c g then k (b1 true) else k (b1 false)) else k (b1 false)
  bif rnZ c g != 0 then F else bif rnZ (c && wyB 1) g != 0 then F else bif rnZ c g != 0 then F
  else bif ((wyL (c && wyB 1) g (ax, ay, vx, vy, sp) 1).length : Int) != IntKind.i64.wrap (rnN c g + 1) then k (b1 false)
  else bif ((selL c (wnP we g cx cy sd w pb po ax ay l)).length : Int) != (pb.length : Int) then k (b1 false)
  else bif ((selL c (wnQ we g cx cy sd w pb po ax ay l)).length : Int) != (po.length : Int) then k (b1 false)
  else teT cx cy sd w h pb po fl ke sw be we ax ay vx vy sp l m o N (wyL (c && wyB 1) g (ax, ay, vx, vy, sp) 1) (selL c (wnP we g cx cy sd w pb po ax ay l)) (selL c (wnQ we g cx cy sd w pb po ax ay l)) k
end
set_option maxRecDepth 100000 in
theorem telse_text (N n0 : Nat) (α : Type) (cx cy sd w h : Int) (pb po : List Int) (fl ke sw be we : Int) (ax ay vx vy sp : Int) (l : List BrI) (m : Int) (o : List Int) (k : AOut → Option α) : evFn real tab ((twV fsTe spL).env real tab N (n0 + 8)) N Tryz.f3 α [.agg [.int .i64 cx, .int .i64 cy, .int .i64 sd, .int .i64 w, .int .i64 h, .ro (.int .i64) pb, .ro (.int .i64) po], .agg [.int .i64 fl, .int .i64 ke, .int .i64 sw, .int .i64 be, .int .i64 we], .agg [.int .i64 ax, .int .i64 ay, .int .i64 vx, .int .i64 vy, .int .i64 sp], .ro (.recd (.cons (.int .i64) (.cons (.int .i64) (.cons (.int .i64) .nil)))) l, .int .u8 m, .ro (.int .u16) o] k =
 bif decide ((pb.length : Int) > 200) then k (b1 true) else bif decide ((po.length : Int) > 200) then k (b1 true) else bif decide ((l.length : Int) > 66) then k (b1 true) else bif
 decide ((o.length : Int) > 200) then k (b1 true) else teX cx cy sd w h pb po fl ke sw be we ax ay vx vy sp l ((IntKind.i64.wrap m).tmod 61) o N k := by kernel_rfl
end Go.Proofs.YtnhlnagihokokaaGreat

namespace Go.Proofs.YtnhlnagihokokaaGreat
open Go.RowKit
/-! Runs. -/
theorem runL_all {S : Type} {nx : Nat → S → Option S} {z : S → Bool} {I : S → Prop} (hi : ∀ i s s', I s → nx i s = some s' → I s') : ∀ (n i : Nat) (s : S) L, I s → runL nx z n i s = some L → ∀ u ∈ L, I u
  | 0, i, s, L, _, h => by cases h; exact fun u hu => by cases hu
  | n + 1, i, s, L, hs, h => by
    rw [runL] at h
    cases hz : z s
    · rw [hz, cond_false] at h
      cases hn : nx i s with
      | none => rw [hn] at h; cases h
      | some s' =>
        rw [hn] at h
        simp only at h
        cases hr : runL nx z n (i + 1) s' with
        | none => rw [hr] at h; cases h
        | some L' =>
          rw [hr] at h
          cases h
          have i' := hi i s s' hs hn
          intro u hu
          rcases List.mem_cons.1 hu with rfl | hu
          · exact i'
          · exact runL_all hi n (i + 1) s' L' i' hr u hu
    · rw [hz, cond_true] at h; cases h; exact fun u hu => by cases hu
theorem runL_same {S : Type} {nx nx' : Nat → S → Option S} {z : S → Bool} : ∀ (n i : Nat) (s : S) L, runL nx z n i s = some L → (∀ u ∈ s :: L, ∀ j, nx' j u = nx j u) → runL nx' z n i s = some L
  | 0, i, s, L, h, _ => h
  | n + 1, i, s, L, h, hu => by
    rw [runL] at h ⊢
    cases hz : z s
    · rw [hz, cond_false] at h
      rw [cond_false, hu s (List.mem_cons_self ..)]
      cases hn : nx i s with
      | none => rw [hn] at h; cases h
      | some s' =>
        rw [hn] at h
        simp only at h ⊢
        cases hr : runL nx z n (i + 1) s' with
        | none => rw [hr] at h; cases h
        | some L' =>
          rw [hr] at h
          cases h
          rw [runL_same n (i + 1) s' L' hr fun u hm => hu u (List.mem_cons_of_mem _ hm)]
    · rw [hz, cond_true] at h; cases h; rfl
def pairP (P : SpI → SpI → Prop) : List SpI → Prop
  | a :: b :: r => P a b ∧ pairP P (b :: r)
  | _ => True
theorem pairP_of {P : SpI → SpI → Prop} : ∀ (l : List SpI), (∀ k, k + 1 < l.length → P (l.getD k spD) (l.getD (k + 1) spD)) → pairP P l
  | [], _ => trivial
  | [_], _ => trivial
  | a :: b :: r, h => ⟨h 0 (by simp), pairP_of (b :: r) fun k hk => h (k + 1) (by simpa using hk)⟩
theorem wr_keep (cx cy sd w h : Int) (pb po : List Int) (fl ke sw be we : Int) (l : List BrI) {c : Nat} : ∀ (n i : Nat) (s : St5) L (a : WrA), runL (gnx cx cy sd w h pb po fl ke sw be we l) z5 n i s = some L → a.2.1 = (s.1, s.2.1) →
    pairP (fun p q => toB cx cy sd w p.1 p.2.1 q.1 q.2.1 c = false) ((s :: L).map sp5) → c < a.2.2.1.length → c < a.2.2.2.length →
    (L.foldl (wrUp cx cy sd w we l) a).2.2.1.getD c 0 = a.2.2.1.getD c 0 ∧ (L.foldl (wrUp cx cy sd w we l) a).2.2.2.getD c 0 = a.2.2.2.getD c 0
  | 0, i, s, L, a, hq, _, _, _, _ => by cases hq; exact ⟨rfl, rfl⟩
  | n + 1, i, s, L, a, hq, ha, hp, h1, h2 => by
    rw [runL] at hq
    cases hz : z5 s
    · rw [hz, cond_false] at hq
      cases hn : gnx cx cy sd w h pb po fl ke sw be we l i s with
      | none => rw [hn] at hq; cases hq
      | some s' =>
        rw [hn] at hq
        simp only at hq
        cases hr : runL (gnx cx cy sd w h pb po fl ke sw be we l) z5 n (i + 1) s' with
        | none => rw [hr] at hq; cases hq
        | some L' =>
          rw [hr] at hq
          cases hq
          obtain ⟨hp1, hp2⟩ := hp
          have hp1' : toB cx cy sd w s.1 s.2.1 s'.1 s'.2.1 c = false := hp1
          rw [List.foldl_cons]
          cases hz' : z5 s'
          · have e : wrUp cx cy sd w we l a s' = (a.1 + 1, (s'.1, s'.2.1), chgL (fun i => toB cx cy sd w a.2.1.1 a.2.1.2 s'.1 s'.2.1 i) (fun i => wornV i we) a.2.2.1, bif decide (strN l a.1 > 0) then chgL (fun i => toB cx cy sd w a.2.1.1 a.2.1.2 s'.1 s'.2.1 i) (fun i => moreV i (strN l a.1)) a.2.2.2 else a.2.2.2) := by
              unfold wrUp; rw [hz', cond_false]
            rw [ha] at e
            have e1 : (wrUp cx cy sd w we l a s').2.2.1 = chgL (fun i => toB cx cy sd w s.1 s.2.1 s'.1 s'.2.1 i) (fun i => wornV i we) a.2.2.1 := by rw [e]
            have e2 : (wrUp cx cy sd w we l a s').2.2.2 = bif decide (strN l a.1 > 0) then chgL (fun i => toB cx cy sd w s.1 s.2.1 s'.1 s'.2.1 i) (fun i => moreV i (strN l a.1)) a.2.2.2 else a.2.2.2 := by rw [e]
            have l1 : (wrUp cx cy sd w we l a s').2.2.1.length = a.2.2.1.length := by rw [e1, chg_len]
            have l2 : (wrUp cx cy sd w we l a s').2.2.2.length = a.2.2.2.length := by
              rw [e2]
              cases decide (strN l a.1 > 0)
              · rfl
              · rw [cond_true, chg_len]
            obtain ⟨r1, r2⟩ := wr_keep cx cy sd w h pb po fl ke sw be we l n (i + 1) s' L' (wrUp cx cy sd w we l a s') hr (by rw [e]) hp2 (by rw [l1]; exact h1) (by rw [l2]; exact h2)
            have g1 : (wrUp cx cy sd w we l a s').2.2.1.getD c 0 = a.2.2.1.getD c 0 := by
              rw [e1, chg_get _ _ _ h1, hp1', cond_false]
            have g2 : (wrUp cx cy sd w we l a s').2.2.2.getD c 0 = a.2.2.2.getD c 0 := by
              rw [e2]
              cases decide (strN l a.1 > 0)
              · rfl
              · rw [cond_true, chg_get _ _ _ h2, hp1', cond_false]
            exact ⟨r1.trans g1, r2.trans g2⟩
          · have hL' : L' = [] := by
              cases n with
              | zero => cases hr; rfl
              | succ n => rw [runL, hz', cond_true] at hr; cases hr; rfl
            subst hL'
            have e : wrUp cx cy sd w we l a s' = (a.1 + 1, a.2) := by unfold wrUp; rw [hz', cond_true]
            rw [List.foldl_nil, e]
            exact ⟨rfl, rfl⟩
    · rw [hz, cond_true] at hq; cases hq; exact ⟨rfl, rfl⟩
theorem wr_len (cx cy sd w we : Int) (l : List BrI) : ∀ (L : List St5) (a : WrA), (L.foldl (wrUp cx cy sd w we l) a).2.2.1.length = a.2.2.1.length ∧ (L.foldl (wrUp cx cy sd w we l) a).2.2.2.length = a.2.2.2.length
  | [], a => ⟨rfl, rfl⟩
  | s :: L, a => by
    rw [List.foldl_cons]
    obtain ⟨r1, r2⟩ := wr_len cx cy sd w we l L (wrUp cx cy sd w we l a s)
    rw [r1, r2]
    unfold wrUp
    cases z5 s
    · simp only [cond_false]
      refine ⟨chg_len .., ?_⟩
      cases decide (strN l a.1 > 0)
      · rfl
      · simp only [cond_true]; exact chg_len ..
    · exact ⟨rfl, rfl⟩
theorem way_1 (L : List SpI) : wayL 1 L L.length = L := by
  unfold wayL
  have : ∀ t, wyP 1 L.length t = true := fun t => by
    unfold wyP
    rw [Int.tmod_one]; rfl
  rw [List.filter_eq_self.2 fun t _ => this t]
  refine List.ext_getElem? fun i => ?_
  rw [List.getElem?_map]
  rcases Nat.lt_or_ge i L.length with hi | hi
  · rw [List.getElem?_range hi, Option.map_some, List.getD_eq_getElem?_getD, List.getElem?_eq_getElem hi]; rfl
  · rw [List.getElem?_eq_none (by rw [List.length_range]; exact hi), List.getElem?_eq_none hi]; rfl
/-! Lists of what is true. -/
theorem set_true {t : List Bool} {i j : Nat} (h : t.getD j false = true) : (t.set i true).getD j false = true := by
  rw [List.getD_eq_getElem?_getD] at h ⊢
  rw [List.getElem?_set]
  split
  · rename_i e
    subst e
    split
    · rfl
    · rename_i hl; rw [List.getElem?_eq_none (by omega)] at h; cases h
  · exact h
theorem set_here {t : List Bool} {i : Nat} (h : i < t.length) : (t.set i true).getD i false = true := by
  rw [List.getD_eq_getElem?_getD, List.getElem?_set_self h]; rfl
def toF (b : Bool) (t : List Bool) (l : List Int) : Nat → List Bool
  | 0 => t
  | i + 1 => (toF b t l i).set (l.getD i 0).toNat (bif b then true else (toF b t l i).getD (l.getD i 0).toNat false)
theorem toF_len (b : Bool) (t : List Bool) (l : List Int) : ∀ i, (toF b t l i).length = t.length
  | 0 => rfl
  | i + 1 => by rw [toF, List.length_set, toF_len b t l i]
theorem toF_keep (b : Bool) (t : List Bool) (l : List Int) {j : Nat} (h : t.getD j false = true) : ∀ i, (toF b t l i).getD j false = true
  | 0 => h
  | i + 1 => by
    have ih := toF_keep b t l h i
    rw [toF]
    cases b
    · simp only [cond_false]
      rw [List.getD_eq_getElem?_getD, List.getElem?_set]
      split
      · rename_i e
        split
        · rw [e]; exact ih
        · rename_i hl
          rw [List.getD_eq_getElem?_getD, List.getElem?_eq_none (by omega)] at ih; cases ih
      · rw [List.getD_eq_getElem?_getD] at ih; exact ih
    · exact set_true ih
theorem toF_at (t : List Bool) (l : List Int) {k : Nat} (hk : (l.getD k 0).toNat < t.length) : ∀ i, k < i → (toF true t l i).getD (l.getD k 0).toNat false = true
  | i + 1, h => by
    rw [toF]
    simp only [cond_true]
    rcases Nat.lt_or_ge k i with hi | hi
    · exact set_true (toF_at t l hk i hi)
    · have : k = i := by omega
      subst this
      exact set_here (by rw [toF_len]; exact hk)
theorem teI_loop {β : Type} (TC : List Int) (i : Nat) (t : List Bool) (hT : TC.length ≤ 1000) (hin : ∀ k < TC.length, 0 ≤ TC.getD k 0 ∧ TC.getD k 0 < (t.length : Int)) (K : Nat → T2e → Option β) {N : Nat} (hN : TC.length < N) :
    afterL (iterL N (teI TC (i : Int)) (0, t, ())) K = K 2 ((TC.length : Int), toF (decide (0 < i)) t TC TC.length, ()) := by
  refine count_loop (f := teI TC (i : Int)) (fun k : Nat => ((k : Int), toF (decide (0 < i)) t TC k, ())) TC.length (fun k hk => ?_) ?_ hN
  · have hb := hin k hk
    unfold teI
    simp only [lt_len hk, cond_true, in_len hk, if_pos, and_self, decide_true, Int.toNat_natCast, toF_len, wrap_next hk (show TC.length ≤ maxLen by have : maxLen = 9223372036854775807 := rfl; omega)]
    simp only [hb.1, hb.2, and_self, if_true]
    have e : decide ((i : Int) > 0) = decide (0 < i) := by
      by_cases h : 0 < i
      · rw [decide_eq_true h, decide_eq_true (show (i : Int) > 0 by omega)]
      · rw [decide_eq_false h, decide_eq_false (show ¬ (i : Int) > 0 by omega)]
    rw [e]
    cases decide (0 < i) <;> rfl
  · unfold teI
    simp only [not_lt_len, cond_false]
end Go.Proofs.YtnhlnagihokokaaGreat

namespace Go.Proofs.YtnhlnagihokokaaGreat
open Go.RowKit
theorem gD_mem {X : Type} {l : List X} {i : Nat} (d : X) (h : i < l.length) : l.getD i d ∈ l := by
  rw [List.getD_eq_getElem?_getD, List.getElem?_eq_getElem h]; exact List.getElem_mem h
theorem prvI_nat {i : Nat} (h : i < 1000) : prvI (i : Int) = ((i - 1 : Nat) : Int) := by
  unfold prvI
  rw [i64_in _ (by omega)]
  split <;> omega
section
variable (cx cy sd w h : Int) (pb po : List Int) (W : List SpI)
def tcK (i : Nat) : List Int := tcV cx cy sd w h pb po (W.getD (i - 1) spD).1 (W.getD (i - 1) spD).2.1 (W.getD i spD).1 (W.getD i spD).2.1
def inF (n : Nat) : Nat → List Bool
  | 0 => List.replicate n false
  | i + 1 => bif atE cx cy sd w h pb po (W.getD i spD).1 (W.getD i spD).2.1 == 0 then (inF n i).set (atV cx cy sd w h pb po (W.getD i spD).1 (W.getD i spD).2.1).toNat true else inF n i
def tdF (n : Nat) : Nat → List Bool
  | 0 => List.replicate n false
  | i + 1 => toF (decide (0 < i)) (tdF n i) (tcK cx cy sd w h pb po W i) (tcK cx cy sd w h pb po W i).length
theorem inF_len (n : Nat) : ∀ i, (inF cx cy sd w h pb po W n i).length = n
  | 0 => by rw [inF, List.length_replicate]
  | i + 1 => by
    rw [inF]
    cases atE cx cy sd w h pb po (W.getD i spD).1 (W.getD i spD).2.1 == 0
    · exact inF_len n i
    · rw [cond_true, List.length_set, inF_len n i]
theorem tdF_len (n : Nat) : ∀ i, (tdF cx cy sd w h pb po W n i).length = n
  | 0 => by rw [tdF, List.length_replicate]
  | i + 1 => by rw [tdF, toF_len, tdF_len n i]
theorem inF_at (n : Nat) {k : Nat} (h0 : (atE cx cy sd w h pb po (W.getD k spD).1 (W.getD k spD).2.1 == 0) = true) (hk : (atV cx cy sd w h pb po (W.getD k spD).1 (W.getD k spD).2.1).toNat < n) : ∀ i, k < i → (inF cx cy sd w h pb po W n i).getD (atV cx cy sd w h pb po (W.getD k spD).1 (W.getD k spD).2.1).toNat false = true
  | i + 1, hi => by
    rw [inF]
    rcases Nat.lt_or_ge k i with hlt | hge
    · have ih := inF_at n h0 hk i hlt
      cases atE cx cy sd w h pb po (W.getD i spD).1 (W.getD i spD).2.1 == 0
      · exact ih
      · exact set_true ih
    · have : k = i := by omega
      subst this
      rw [h0, cond_true]
      exact set_here (by rw [inF_len]; exact hk)
theorem tdF_at (n : Nat) {k q : Nat} (h0 : 0 < k) (hq : q < (tcK cx cy sd w h pb po W k).length) (hn : ((tcK cx cy sd w h pb po W k).getD q 0).toNat < n) : ∀ i, k < i → (tdF cx cy sd w h pb po W n i).getD ((tcK cx cy sd w h pb po W k).getD q 0).toNat false = true
  | i + 1, hi => by
    rw [tdF]
    rcases Nat.lt_or_ge k i with hlt | hge
    · exact toF_keep _ _ _ (tdF_at n h0 hq hn i hlt) _
    · have : k = i := by omega
      subst this
      rw [decide_eq_true h0]
      exact toF_at _ _ (by rw [tdF_len]; exact hn) _ hq
end
section
variable {α : Type} {cx cy sd w h : Int} {pb po : List Int}
theorem tcK_in (hi : iceB cx cy sd w h pb po = true) (W : List SpI) (k : Nat) : (tcK cx cy sd w h pb po W k).length ≤ pb.length ∧ ∀ q < (tcK cx cy sd w h pb po W k).length, 0 ≤ (tcK cx cy sd w h pb po W k).getD q 0 ∧ (tcK cx cy sd w h pb po W k).getD q 0 < (pb.length : Int) := by
  have g := ice_is _ _ _ _ _ _ _ hi
  have hc : cels w h = pb.length := by unfold cels; rw [← g.pl]; rfl
  unfold tcK tcV
  cases twB cx cy sd w h pb po (W.getD (k - 1) spD).1 (W.getD (k - 1) spD).2.1 (W.getD k spD).1 (W.getD k spD).2.1
  · exact ⟨Nat.zero_le _, fun q hq => absurd hq (Nat.not_lt_zero _)⟩
  · simp only [cond_true]
    unfold tchL
    rw [hc]
    refine ⟨whL_len _ _, fun q hq => ?_⟩
    have hm : (whL (fun n : Nat => toB cx cy sd w (W.getD (k - 1) spD).1 (W.getD (k - 1) spD).2.1 (W.getD k spD).1 (W.getD k spD).2.1 n) pb.length).getD q 0 ∈ whL (fun n : Nat => toB cx cy sd w (W.getD (k - 1) spD).1 (W.getD (k - 1) spD).2.1 (W.getD k spD).1 (W.getD k spD).2.1 n) pb.length := gD_mem 0 hq
    unfold whL at hm
    obtain ⟨j, hj, e⟩ := List.mem_map.1 hm
    have := List.mem_range.1 (List.mem_filter.1 hj).1
    unfold whL
    rw [← e]
    omega
theorem tdF_no (hi : iceB cx cy sd w h pb po = true) {W : List SpI} {k c : Nat} (hW : ∀ p ∈ W, plcB p.1 p.2.1 = true) (hk : k + 1 < W.length) (hc : c < pb.length) (hf : (tdF cx cy sd w h pb po W pb.length W.length).getD c false = false) :
    toB cx cy sd w (W.getD k spD).1 (W.getD k spD).2.1 (W.getD (k + 1) spD).1 (W.getD (k + 1) spD).2.1 c = false := by
  have g := ice_is _ _ _ _ _ _ _ hi
  have hcl : cels w h = pb.length := by unfold cels; rw [← g.pl]; rfl
  cases ht : toB cx cy sd w (W.getD k spD).1 (W.getD k spD).2.1 (W.getD (k + 1) spD).1 (W.getD (k + 1) spD).2.1 c
  · rfl
  · exfalso
    have mem : ∀ j, j < W.length → W.getD j spD ∈ W := fun j hj => gD_mem spD hj
    have htw : twB cx cy sd w h pb po (W.getD k spD).1 (W.getD k spD).2.1 (W.getD (k + 1) spD).1 (W.getD (k + 1) spD).2.1 = true := by
      unfold twB; rw [hi, hW _ (mem k (by omega)), hW _ (mem (k + 1) hk)]; rfl
    have hm : (c : Int) ∈ tcK cx cy sd w h pb po W (k + 1) := by
      unfold tcK tcV
      rw [show k + 1 - 1 = k from rfl, htw, cond_true]
      unfold tchL whL
      rw [hcl]
      exact List.mem_map.2 ⟨c, List.mem_filter.2 ⟨List.mem_range.2 hc, ht⟩, rfl⟩
    obtain ⟨q, hq, e⟩ := List.getElem_of_mem hm
    have e' : (tcK cx cy sd w h pb po W (k + 1)).getD q 0 = (c : Int) := by rw [List.getD_eq_getElem?_getD, List.getElem?_eq_getElem hq]; exact e
    have := tdF_at cx cy sd w h pb po W pb.length (k := k + 1) (by omega) hq (by rw [e']; exact hc) W.length hk
    rw [e', Int.toNat_natCast, hf] at this
    cases this
theorem teK_loop (hi : iceB cx cy sd w h pb po = true) {W : List SpI} (hW : ∀ p ∈ W, plcB p.1 p.2.1 = true) (hl : W.length ≤ 100) (hp : pb.length ≤ 200) (R : Option α) (K : Nat → T3e → Option α) :
    afterL (iterL 300 (teK cx cy sd w h pb po W 300 R) (0, List.replicate pb.length false, List.replicate pb.length false, ())) K = K 0 ((W.length : Int), inF cx cy sd w h pb po W pb.length W.length, tdF cx cy sd w h pb po W pb.length W.length, ()) := by
  have g := ice_is _ _ _ _ _ _ _ hi
  have hmx : W.length ≤ maxLen := by have : maxLen = 9223372036854775807 := rfl; omega
  have mem : ∀ j, j < W.length → W.getD j spD ∈ W := fun j hj => gD_mem spD hj
  have J : ∀ (i : Nat) (inn : List Bool), i < W.length → teJ cx cy sd w h pb po W 300 R inn ((i : Int), inF cx cy sd w h pb po W pb.length i, tdF cx cy sd w h pb po W pb.length i, ()) = some (.cont (((i + 1 : Nat) : Int), inn, tdF cx cy sd w h pb po W pb.length (i + 1), ())) := fun i inn hlt => by
    have hpr : i - 1 < W.length := by omega
    have htw : twB cx cy sd w h pb po (W.getD (i - 1) spD).1 (W.getD (i - 1) spD).2.1 (W.getD i spD).1 (W.getD i spD).2.1 = true := by
      unfold twB; rw [hi, hW _ (mem _ hpr), hW _ (mem i hlt)]; rfl
    obtain ⟨t1, t2⟩ := tcK_in hi W i
    unfold teJ
    simp only [prvI_nat (show i < 1000 by omega), in_len hpr, if_pos, and_self, Int.toNat_natCast, htw, wrap_next hlt hmx]
    show (bif (0 : Int) != 0 then _ else _) = _
    rw [show ((0 : Int) != 0) = false from rfl, cond_false]
    refine (teI_loop (tcK cx cy sd w h pb po W i) i (tdF cx cy sd w h pb po W pb.length i) (by omega) (fun k hk => by rw [tdF_len]; exact t2 k hk) _ (by omega)).trans ?_
    rw [if_pos rfl]
    rfl
  refine count_loop (f := teK cx cy sd w h pb po W 300 R) (fun i : Nat => ((i : Int), inF cx cy sd w h pb po W pb.length i, tdF cx cy sd w h pb po W pb.length i, ())) W.length (fun i hlt => ?_) ?_ (by omega)
  · unfold teK
    simp only [lt_len hlt, cond_true, in_len hlt, if_pos, and_self, decide_true, Int.toNat_natCast, J i _ hlt, inF_len]
    cases ha : atE cx cy sd w h pb po (W.getD i spD).1 (W.getD i spD).2.1 == 0
    · simp only [cond_false]
      rw [inF, ha, cond_false]
    · simp only [cond_true]
      have hr : 0 ≤ atV cx cy sd w h pb po (W.getD i spD).1 (W.getD i spD).2.1 ∧ atV cx cy sd w h pb po (W.getD i spD).1 (W.getD i spD).2.1 < (pb.length : Int) := by
        rw [g.pl]
        unfold atE at ha
        rw [hi, hW _ (mem i hlt)] at ha
        unfold atV
        rw [hi, hW _ (mem i hlt)]
        cases hc : inCel cx cy sd w h (W.getD i spD).1 (W.getD i spD).2.1
        · rw [hc] at ha; cases ha
        · have := cel_in g.fs.1 g.fw.1 hc
          exact ⟨this.1, this.2.1⟩
      rw [if_pos hr, inF, ha, cond_true]
  · unfold teK
    simp only [not_lt_len, cond_false]
end
def qF (o : List Int) (IN : List Bool) (pb po : List Int) : Nat → List Int × List Int
  | 0 => (pb, po)
  | c + 1 => bif !IN.getD c false && decide ((o.length : Int) > 0) then ((qF o IN pb po c).1.set c (tePb o c), (qF o IN pb po c).2.set c (tePo o c)) else qF o IN pb po c
theorem qF_len (o : List Int) (IN : List Bool) (pb po : List Int) : ∀ c, (qF o IN pb po c).1.length = pb.length ∧ (qF o IN pb po c).2.length = po.length
  | 0 => ⟨rfl, rfl⟩
  | c + 1 => by
    obtain ⟨a, b⟩ := qF_len o IN pb po c
    rw [qF]
    cases (!IN.getD c false && decide ((o.length : Int) > 0))
    · exact ⟨a, b⟩
    · exact ⟨by rw [cond_true, List.length_set]; exact a, by rw [cond_true, List.length_set]; exact b⟩
theorem qF_keep (o : List Int) (IN : List Bool) (pb po : List Int) {j : Nat} (h : IN.getD j false = true) : ∀ c, (qF o IN pb po c).1.getD j 0 = pb.getD j 0 ∧ (qF o IN pb po c).2.getD j 0 = po.getD j 0
  | 0 => ⟨rfl, rfl⟩
  | c + 1 => by
    obtain ⟨a, b⟩ := qF_keep o IN pb po h c
    rw [qF]
    by_cases e : c = j
    · subst e
      rw [h]; exact ⟨a, b⟩
    · cases (!IN.getD c false && decide ((o.length : Int) > 0))
      · exact ⟨a, b⟩
      · simp only [cond_true]
        rw [List.getD_eq_getElem?_getD, List.getElem?_set_ne e, ← List.getD_eq_getElem?_getD, List.getD_eq_getElem?_getD (l := (qF o IN pb po c).2.set c (tePo o c)), List.getElem?_set_ne e, ← List.getD_eq_getElem?_getD]
        exact ⟨a, b⟩
def u16L (o : List Int) : Bool := o.all fun x => decide (0 ≤ x) && decide (x ≤ 65535)
theorem te_range {o : List Int} (ho : u16L o = true) (c : Nat) (hc : c < 1000) : grnB (tePb o c) = true ∧ grnB (tePo o c) = true := by
  have hx : 0 ≤ o.getD ((c : Int).tmod (o.length : Int)).toNat 0 ∧ o.getD ((c : Int).tmod (o.length : Int)).toNat 0 ≤ 65535 := by
    rcases Nat.lt_or_ge ((c : Int).tmod (o.length : Int)).toNat o.length with hl | hl
    · have hm : o.getD ((c : Int).tmod (o.length : Int)).toNat 0 ∈ o := by rw [List.getD_eq_getElem?_getD, List.getElem?_eq_getElem hl]; exact List.getElem_mem hl
      exact in_dec.1 (List.all_eq_true.1 ho _ hm)
    · rw [List.getD_eq_getElem?_getD, List.getElem?_eq_none hl]; exact ⟨Int.le_refl _, by decide⟩
  unfold tePb tePo grnB
  generalize o.getD ((c : Int).tmod (o.length : Int)).toNat 0 = x at hx
  have e1 : IntKind.i64.wrap x = x := i64_in _ (by omega)
  have hd : 0 ≤ x.tdiv 64 ∧ x.tdiv 64 ≤ 65535 := by rw [Int.tdiv_eq_ediv_of_nonneg hx.1]; omega
  have e2 : IntKind.i64.wrap (x.tdiv 64) = x.tdiv 64 := i64_in _ (by omega)
  rw [e1, e2, i64_in (x.tdiv 64 + (c : Int)) (by omega), Int.tmod_eq_emod_of_nonneg hx.1, Int.tmod_eq_emod_of_nonneg (by omega)]
  exact ⟨in_dec.2 (by omega), in_dec.2 (by omega)⟩
theorem all_set {p : Int → Bool} {l : List Int} {i : Nat} {x : Int} (h : l.all p = true) (hx : p x = true) : (l.set i x).all p = true := by
  refine List.all_eq_true.2 fun y hy => ?_
  rcases List.mem_or_eq_of_mem_set hy with h' | rfl
  · exact List.all_eq_true.1 h y h'
  · exact hx
theorem qF_grn {o : List Int} (ho : u16L o = true) (IN : List Bool) {pb po : List Int} (h1 : pb.all grnB = true) (h2 : po.all grnB = true) : ∀ c, c ≤ 1000 → (qF o IN pb po c).1.all grnB = true ∧ (qF o IN pb po c).2.all grnB = true
  | 0, _ => ⟨h1, h2⟩
  | c + 1, hc => by
    obtain ⟨a, b⟩ := qF_grn ho IN h1 h2 c (by omega)
    rw [qF]
    cases (!IN.getD c false && decide ((o.length : Int) > 0))
    · exact ⟨a, b⟩
    · have := te_range ho c (by omega)
      exact ⟨all_set a this.1, all_set b this.2⟩
theorem teP_loop {α : Type} {pb po WP WQ o : List Int} {IN TO : List Bool} {n : Nat} (hn : n ≤ 200) (h1 : pb.length = n) (h2 : po.length = n) (h3 : WP.length = n) (h4 : WQ.length = n) (h5 : IN.length = n) (h6 : TO.length = n) (ho : o.length ≤ 200)
    (hs : ∀ c < n, TO.getD c false = false → WP.getD c 0 = pb.getD c 0 ∧ WQ.getD c 0 = po.getD c 0) (R : Option α) (K : Nat → Q3e → Option α) :
    afterL (iterL 300 (teP pb po WP WQ o IN TO R) (pb, po, 0, ())) K = K 4 ((qF o IN pb po n).1, (qF o IN pb po n).2, (n : Int), ()) := by
  have hmx : n ≤ maxLen := by have : maxLen = 9223372036854775807 := rfl; omega
  have O : ∀ c, c < n → teO (α := α) o IN ((qF o IN pb po c).1, (qF o IN pb po c).2, (c : Int), ()) = some (.cont ((qF o IN pb po (c + 1)).1, (qF o IN pb po (c + 1)).2, ((c + 1 : Nat) : Int), ())) := fun c hc => by
    obtain ⟨a, b⟩ := qF_len o IN pb po c
    unfold teO
    simp only [h5, in_len hc, if_pos, and_self, Int.toNat_natCast, a, b, h1, h2, wrap_next hc hmx]
    rw [qF]
    cases IN.getD c false
    · simp only [Bool.not_false, Bool.true_and, cond_true]
      by_cases hp : 0 < o.length
      · rw [decide_eq_true (show (o.length : Int) > 0 by omega), cond_true, if_neg (by omega : ¬ (o.length : Int) = 0)]
        have hm : 0 ≤ (c : Int).tmod (o.length : Int) ∧ (c : Int).tmod (o.length : Int) < (o.length : Int) := by
          rw [Int.tmod_eq_emod_of_nonneg (by omega)]
          exact ⟨Int.emod_nonneg _ (by omega), Int.emod_lt_of_pos _ (by omega)⟩
        rw [if_pos hm]; rfl
      · rw [decide_eq_false (show ¬ (o.length : Int) > 0 by omega)]; rfl
    · rfl
  refine count_loop (f := teP pb po WP WQ o IN TO R) (fun c : Nat => ((qF o IN pb po c).1, (qF o IN pb po c).2, (c : Int), ())) n (fun c hc => ?_) ?_ (by omega)
  · unfold teP
    simp only [h5, h6, h3, h4, h1, h2, lt_len hc, cond_true, in_len hc, if_pos, and_self, decide_true, Int.toNat_natCast, O c hc]
    cases ht : TO.getD c false
    · obtain ⟨e1, e2⟩ := hs c hc ht
      rw [e1, e2, bne_self_eq_false, bne_self_eq_false]; rfl
    · rfl
  · unfold teP
    simp only [h5, not_lt_len, cond_false]
end Go.Proofs.YtnhlnagihokokaaGreat

namespace Go.Proofs.YtnhlnagihokokaaGreat
open Go.RowKit
theorem slw_swap {cx cy sd w h : Int} {pb po pb' po' : List Int} {fl ke sw be we x y : Int} (hi : iceB cx cy sd w h pb po = true) (hi' : iceB cx cy sd w h pb' po' = true)
    (hc : plcB x y = true → inCel cx cy sd w h x y = true → pb'.getD (celC cx cy sd w x y).toNat 0 = pb.getD (celC cx cy sd w x y).toNat 0 ∧ po'.getD (celC cx cy sd w x y).toNat 0 = po.getD (celC cx cy sd w x y).toNat 0) :
    slwV cx cy sd w h pb' po' fl ke sw be we x y = slwV cx cy sd w h pb po fl ke sw be we x y ∧ bdvV cx cy sd w h pb' po' fl ke sw be we x y = bdvV cx cy sd w h pb po fl ke sw be we x y := by
  unfold slwV bdvV hgt
  rw [hi, hi']
  cases hp : plcB x y
  · simp only [Bool.and_false, cond_false, and_self]
  · cases hin : inCel cx cy sd w h x y
    · exact ⟨rfl, rfl⟩
    · obtain ⟨a, b⟩ := hc hp hin
      rw [a, b]
      exact ⟨rfl, rfl⟩
theorem teT_true {α : Type} (cx cy sd w h : Int) (pb po : List Int) (fl ke sw be we ax ay vx vy sp : Int) (l : List BrI) (m : Int) (o : List Int) (hpb : pb.length ≤ 200) (hpo : po.length ≤ 200) (ho : o.length ≤ 200) (hu : u16L o = true) (hm : m < 61)
    (hc : rnB cx cy sd w h pb po fl ke sw be we ax ay vx vy sp l m = true) (L : List St5) (hL : gRL cx cy sd w h pb po fl ke sw be we ax ay vx vy sp l m = some L) (k : AOut → Option α) :
    teT cx cy sd w h pb po fl ke sw be we ax ay vx vy sp l m o 300 (((ax, ay, vx, vy, sp) :: L).map sp5) (wnP we (some L) cx cy sd w pb po ax ay l) (wnQ we (some L) cx cy sd w pb po ax ay l) k = k (b1 true) := by
  have hc0 := hc
  unfold rnB at hc
  simp only [Bool.and_eq_true] at hc
  obtain ⟨⟨⟨⟨hi, hg⟩, hmv⟩, hb⟩, ht⟩ := hc
  have g := ice_is _ _ _ _ _ _ _ hi
  have hlen : L.length ≤ m.toNat := runL_len _ _ _ _ _ _ hL
  have hL60 : L.length ≤ 60 := by omega
  have hmov : ∀ u ∈ (ax, ay, vx, vy, sp) :: L, mov5 u = true := fun u hu => by
    rcases List.mem_cons.1 hu with rfl | hu
    · exact hmv
    · exact runL_all (I := fun s => mov5 s = true) (fun i s s' hs hn => gnx_mov cx cy sd w h pb po fl ke sw be we l i s s' hs hn) _ _ _ _ (show mov5 (ax, ay, vx, vy, sp) = true from hmv) hL u hu
  generalize hW : ((ax, ay, vx, vy, sp) :: L).map sp5 = W
  have hWl : W.length = L.length + 1 := by rw [← hW, List.length_map, List.length_cons]
  have hWp : ∀ p ∈ W, plcB p.1 p.2.1 = true := fun p hp => by
    rw [← hW] at hp
    obtain ⟨u, hu, rfl⟩ := List.mem_map.1 hp
    exact (plc_iff ..).2 (mov_iff.1 (hmov u hu)).1
  have hpp : po.length = pb.length := by have a := g.pl; have b := g.ol; omega
  obtain ⟨w1, w2⟩ := wr_len cx cy sd w we l L (0, (ax, ay), pb, po)
  have l1 : (wnP we (some L) cx cy sd w pb po ax ay l).length = pb.length := w1
  have l2 : (wnQ we (some L) cx cy sd w pb po ax ay l).length = pb.length := by rw [← hpp]; exact w2
  have hroom : room ≥ 1000000 := by decide
  unfold teT
  rw [if_pos (by omega), if_pos (by omega)]
  refine (teK_loop hi hWp (by omega) hpb (k (b1 false)) _).trans ?_
  rw [if_pos rfl]
  refine Eq.trans (if_pos (Nat.le_trans (Nat.mul_le_mul_right 8 (show List.length ([] : List Int) + pb.length ≤ 200 by show 0 + pb.length ≤ 200; omega)) (by decide))) ?_
  refine Eq.trans (if_pos (Nat.le_trans (Nat.mul_le_mul_right 8 (show List.length ([] : List Int) + po.length ≤ 200 by show 0 + po.length ≤ 200; omega)) (by decide))) ?_
  have hs : ∀ c < pb.length, (tdF cx cy sd w h pb po W pb.length W.length).getD c false = false → (wnP we (some L) cx cy sd w pb po ax ay l).getD c 0 = pb.getD c 0 ∧ (wnQ we (some L) cx cy sd w pb po ax ay l).getD c 0 = po.getD c 0 := fun c hcl hf => by
    have hpair : pairP (fun p q => toB cx cy sd w p.1 p.2.1 q.1 q.2.1 c = false) (((ax, ay, vx, vy, sp) :: L).map sp5) := by
      rw [hW]
      exact pairP_of W fun k hk => tdF_no hi hWp hk hcl hf
    exact wr_keep cx cy sd w h pb po fl ke sw be we l _ _ _ L (0, (ax, ay), pb, po) hL rfl hpair hcl (by show c < po.length; omega)
  refine (teP_loop (n := pb.length) hpb rfl hpp l1 l2 (inF_len ..) (tdF_len ..) ho hs (k (b1 false)) _).trans ?_
  rw [if_pos rfl]
  obtain ⟨q1, q2⟩ := qF_len o (inF cx cy sd w h pb po W pb.length W.length) pb po pb.length
  obtain ⟨g1, g2⟩ := qF_grn hu (inF cx cy sd w h pb po W pb.length W.length) g.pg g.og pb.length (by omega)
  have hi' := ice_swap hi q1 q2 g1 g2
  have hin : ∀ u ∈ (ax, ay, vx, vy, sp) :: L, ∀ j, gnx cx cy sd w h (qF o (inF cx cy sd w h pb po W pb.length W.length) pb po pb.length).1 (qF o (inF cx cy sd w h pb po W pb.length W.length) pb po pb.length).2 fl ke sw be we l j u = gnx cx cy sd w h pb po fl ke sw be we l j u := fun u hu j => by
    have key := slw_swap (fl := fl) (ke := ke) (sw := sw) (be := be) (we := we) (x := u.1) (y := u.2.1) hi hi' fun hp hcel => by
      have hm : sp5 u ∈ W := by rw [← hW]; exact List.mem_map_of_mem hu
      obtain ⟨q, hq, e⟩ := List.getElem_of_mem hm
      have e' : W.getD q spD = sp5 u := by rw [List.getD_eq_getElem?_getD, List.getElem?_eq_getElem hq]; exact e
      have hc := cel_in g.fs.1 g.fw.1 hcel
      have hE : (atE cx cy sd w h pb po (W.getD q spD).1 (W.getD q spD).2.1 == 0) = true := by
        rw [e']
        show (atE cx cy sd w h pb po u.1 u.2.1 == 0) = true
        unfold atE; rw [hi, hp, hcel]; rfl
      have hV : atV cx cy sd w h pb po (W.getD q spD).1 (W.getD q spD).2.1 = celC cx cy sd w u.1 u.2.1 := by
        rw [e']
        show atV cx cy sd w h pb po u.1 u.2.1 = _
        unfold atV; rw [hi, hp, hcel]; rfl
      have hat := inF_at cx cy sd w h pb po W pb.length hE (by rw [hV]; have := g.pl; omega) W.length hq
      rw [hV] at hat
      exact qF_keep o _ pb po hat pb.length
    unfold gnx
    rw [key.1, key.2]
  have hsame : gRL cx cy sd w h (qF o (inF cx cy sd w h pb po W pb.length W.length) pb po pb.length).1 (qF o (inF cx cy sd w h pb po W pb.length W.length) pb po pb.length).2 fl ke sw be we ax ay vx vy sp l m = some L := runL_same _ _ _ L hL hin
  have hrn : rnB cx cy sd w h (qF o (inF cx cy sd w h pb po W pb.length W.length) pb po pb.length).1 (qF o (inF cx cy sd w h pb po W pb.length W.length) pb po pb.length).2 fl ke sw be we ax ay vx vy sp l m = true := by
    unfold rnB
    rw [hi', hg, hmv, hb, ht]; rfl
  simp only
  rw [hsame, hrn, hc0, hL]
  unfold teE
  simp only [BEq.rfl, Bool.and_self, cond_true]
  rfl
theorem teX_true {α : Type} (cx cy sd w h : Int) (pb po : List Int) (fl ke sw be we ax ay vx vy sp : Int) (l : List BrI) (m : Int) (o : List Int) (hpb : pb.length ≤ 200) (hpo : po.length ≤ 200) (ho : o.length ≤ 200) (hu : u16L o = true) (hm : m < 61) (k : AOut → Option α) :
    teX cx cy sd w h pb po fl ke sw be we ax ay vx vy sp l m o 300 k = k (b1 true) := by
  have hw : wyB 1 = true := rfl
  unfold teX
  simp only [hw, Bool.and_true, BEq.rfl, cond_true]
  cases hc : rnB cx cy sd w h pb po fl ke sw be we ax ay vx vy sp l m
  · rfl
  · cases hL : gRL cx cy sd w h pb po fl ke sw be we ax ay vx vy sp l m with
    | none => rfl
    | some L =>
      have hlen : L.length ≤ m.toNat := runL_len _ _ _ _ _ _ hL
      have eW : wyL true (some L) (ax, ay, vx, vy, sp) 1 = ((ax, ay, vx, vy, sp) :: L).map sp5 := by
        show wayL 1 (((ax, ay, vx, vy, sp) :: L).map sp5) (L.length + 1) = _
        have := way_1 (((ax, ay, vx, vy, sp) :: L).map sp5)
        rw [List.length_map, List.length_cons] at this
        exact this
      have z : (rnZ true (some L) != 0) = false := rfl
      rw [z]
      simp only [cond_false]
      have eN : rnN true (some L) = (L.length : Int) := rfl
      have c0 := hc
      unfold rnB at c0
      simp only [Bool.and_eq_true] at c0
      have g := ice_is _ _ _ _ _ _ _ c0.1.1.1.1
      obtain ⟨w1, w2⟩ := wr_len cx cy sd w we l L (0, (ax, ay), pb, po)
      have l1 : ((selL true (wnP we (some L) cx cy sd w pb po ax ay l)).length : Int) = (pb.length : Int) := congrArg _ w1
      have l2 : ((selL true (wnQ we (some L) cx cy sd w pb po ax ay l)).length : Int) = (po.length : Int) := congrArg _ w2
      rw [eW, eN, l1, l2, List.length_map, List.length_cons, i64_in ((L.length : Int) + 1) (by omega)]
      have e1 : (((L.length + 1 : Nat) : Int) != (L.length : Int) + 1) = false := by rw [bne_eq_false_iff_eq]; omega
      rw [e1, bne_self_eq_false, bne_self_eq_false]
      simp only [cond_false]
      exact teT_true cx cy sd w h pb po fl ke sw be we ax ay vx vy sp l m o hpb hpo ho hu hm hc L hL k
theorem telse_true (cx cy sd w h : Int) (pb po : List Int) (fl ke sw be we : Int) (ax ay vx vy sp : Int) (l : List BrI) (m : Int) (o : List Int) (hu : u16L o = true) : evFn real tab ((twV fsTe spL).env real tab 300 8) 300 Tryz.f3 AOut [.agg [.int .i64 cx, .int .i64 cy, .int .i64 sd, .int .i64 w, .int .i64 h, .ro (.int .i64) pb, .ro (.int .i64) po], .agg [.int .i64 fl, .int .i64 ke, .int .i64 sw, .int .i64 be, .int .i64 we], .agg [.int .i64 ax, .int .i64 ay, .int .i64 vx, .int .i64 vy, .int .i64 sp], .ro (.recd (.cons (.int .i64) (.cons (.int .i64) (.cons (.int .i64) .nil)))) l, .int .u8 m, .ro (.int .u16) o] some = some (b1 true) := by
  refine (telse_text 300 0 AOut cx cy sd w h pb po fl ke sw be we ax ay vx vy sp l m o some).trans ?_
  cases h1 : decide ((pb.length : Int) > 200)
  · cases h2 : decide ((po.length : Int) > 200)
    · cases h3 : decide ((l.length : Int) > 66)
      · cases h4 : decide ((o.length : Int) > 200)
        · have a := of_decide_eq_false h1
          have b := of_decide_eq_false h2
          have c := of_decide_eq_false h4
          simp only [cond_false]
          exact teX_true cx cy sd w h pb po fl ke sw be we ax ay vx vy sp l _ o (by omega) (by omega) (by omega) hu (Int.tmod_lt_of_pos _ (by decide)) some
        · rfl
      · rfl
    · rfl
  · rfl
def telseF : List AVal → Option AOut
  | [.agg [.int .i64 _, .int .i64 _, .int .i64 _, .int .i64 _, .int .i64 _, .ro (.int .i64) _, .ro (.int .i64) _], .agg [.int .i64 _, .int .i64 _, .int .i64 _, .int .i64 _, .int .i64 _], .agg [.int .i64 _, .int .i64 _, .int .i64 _, .int .i64 _, .int .i64 _], .ro (.recd (.cons (.int .i64) (.cons (.int .i64) (.cons (.int .i64) .nil)))) _, .int .u8 _, .ro (.int .u16) o] => bif u16L o then some (b1 true) else none
  | _ => none
theorem telse_ok : FspOk Tryz.prog 3 (toFsp telseF) := tower_V fsTe_ok spL_ok ⟨Tryz.func3, fun _ _ => by kernel_rfl⟩ (toFsp_nat _) fun args out hSm hq => by
  have h := toFsp_some hq
  unfold telseF at h
  split at h
  · rename_i cx cy sd w h0 pb po fl ke sw be we ax ay vx vy sp l m o
    cases hu : u16L o
    · rw [hu] at h; cases h
    · rw [hu] at h
      exact ⟨300, 8, (telse_true cx cy sd w h0 pb po fl ke sw be we ax ay vx vy sp l m o hu).trans h⟩
  · cases h
theorem telse_wf {o : List Int} (h : ∀ x, List.Mem (α := Int) x o → (Lit.int .u16 x).wf = true) : u16L o = true := List.all_eq_true.2 fun x hx => by
  have := h x hx
  simp [Lit.wf, IntKind.min, IntKind.max, IntKind.signed, IntKind.bits] at this
  exact in_dec.2 (by omega)
end Go.Proofs.YtnhlnagihokokaaGreat
