/- Parts of the proof, in build order. -/
import Derived.Test.YtgpljldfbhkdlaaGreatM11
import Derived.Test.YtgpljldfbhkdlaaGreatM10
namespace Go.Proofs.YtgpljldfbhkdlaaGreat
open Go.RowKit
abbrev S12 := Int × Int × Int × Int × Int × Int × Int × Int × Int × Int × Int × Int × Unit
noncomputable def grF {α : Type} (cx cy sd w h : Int) (pb po : List Int) (fl ke sw be we : Int) (l : List BrI) (m : Int) (R : Option α) (x : S12) : Option (LRes S12 α) :=
  bif decide (x.1 < m) then
    bif !(x.2.2.2.2.2.2.2.2.2.1 == 0 && (x.2.2.2.2.2.2.2.2.2.2.1 == 0 && true)) then
      bif l.all brmB then
        bif rgtB cx cy sd w h pb po fl ke sw be we x.2.2.2.2.2.2.2.1 x.2.2.2.2.2.2.2.2.1 x.2.2.2.2.2.2.2.2.2.1 x.2.2.2.2.2.2.2.2.2.2.1 x.2.2.2.2.2.2.2.2.2.2.2.1 (strN l x.1) then
          tkStep (slwV cx cy sd w h pb po fl ke sw be we x.2.2.2.2.2.2.2.1 x.2.2.2.2.2.2.2.2.1) (bdvV cx cy sd w h pb po fl ke sw be we x.2.2.2.2.2.2.2.1 x.2.2.2.2.2.2.2.2.1) x.2.2.2.2.2.2.2.1 x.2.2.2.2.2.2.2.2.1 x.2.2.2.2.2.2.2.2.2.1 x.2.2.2.2.2.2.2.2.2.2.1 x.2.2.2.2.2.2.2.2.2.2.2.1 (strN l x.1) (fun a b c d e => some (.cont (IntKind.i64.wrap (x.1 + 1), IntKind.i64.wrap (x.2.1 + 1), a, b, c, d, e, a, b, c, d, e, ()))) (finL R)
        else none
      else none
    else some (.brk 0 (x.1, x.2.1, x.2.2.1, x.2.2.2.1, x.2.2.2.2.1, x.2.2.2.2.2.1, x.2.2.2.2.2.2.1, x.2.2.2.2.2.2.2.1, x.2.2.2.2.2.2.2.2.1, x.2.2.2.2.2.2.2.2.2.1, x.2.2.2.2.2.2.2.2.2.2.1, x.2.2.2.2.2.2.2.2.2.2.2.1, ()))
  else some (.brk 0 (x.1, x.2.1, x.2.2.1, x.2.2.2.1, x.2.2.2.2.1, x.2.2.2.2.2.1, x.2.2.2.2.2.2.1, x.2.2.2.2.2.2.2.1, x.2.2.2.2.2.2.2.2.1, x.2.2.2.2.2.2.2.2.2.1, x.2.2.2.2.2.2.2.2.2.2.1, x.2.2.2.2.2.2.2.2.2.2.2.1, ()))
abbrev rnErr (e : Int) : AOut := .ret (.tup [.agg [iN 0, iN 0, iN 0, iN 0, iN 0], iN 0, iN e])
noncomputable def grT {α : Type} (N : Nat) (cx cy sd w h : Int) (pb po : List Int) (fl ke sw be we : Int) (ax ay vx vy sp : Int) (l : List BrI) (m : Int) (k : AOut → Option α) : Option α :=
  afterL (iterL N (grF cx cy sd w h pb po fl ke sw be we l m (k (rnErr 4))) (0, 0, ax, ay, vx, vy, sp, ax, ay, vx, vy, sp, ())) fun id y => if id = 0 then k (.ret (.tup [.agg [iN y.2.2.1, iN y.2.2.2.1, iN y.2.2.2.2.1, iN y.2.2.2.2.2.1, iN y.2.2.2.2.2.2.1], iN y.2.1, iN 0])) else none
set_option maxRecDepth 100000 in
theorem gRun_text (N n0 : Nat) (α : Type) (cx cy sd w h : Int) (pb po : List Int) (fl ke sw be we : Int) (ax ay vx vy sp : Int) (l : List BrI) (m : Int) (k : AOut → Option α) : evFn real tab ((twY fsG6 spG).env real tab N (n0 + 12)) N Tryz.f14 α [.agg [.int .i64 cx, .int .i64 cy, .int .i64 sd, .int .i64 w, .int .i64 h, .ro (.int .i64) pb, .ro (.int .i64) po], .agg [.int .i64 fl, .int .i64 ke, .int .i64 sw, .int .i64 be, .int .i64 we], .agg [.int .i64 ax, .int .i64 ay, .int .i64 vx, .int .i64 vy, .int .i64 sp], .ro (.recd (.cons (.int .i64) (.cons (.int .i64) (.cons (.int .i64) .nil)))) l, .int .i64 m] k =
 bif !(iceB cx cy sd w h pb po && graB fl ke sw be we && movB ax ay vx vy sp && brsB l) then k (rnErr 2) else bif decide (0 ≤ m) then bif !decide (m ≤ 6000) then k (rnErr 2) else grT
 N cx cy sd w h pb po fl ke sw be we ax ay vx vy sp l m k else k (rnErr 2) := by kernel_rfl
def st12 (i : Nat) (_ : Unit) (s : St5) : S12 := ((i : Int), (i : Int), s.1, s.2.1, s.2.2.1, s.2.2.2.1, s.2.2.2.2, s.1, s.2.1, s.2.2.1, s.2.2.2.1, s.2.2.2.2, ())
theorem grT_fin {α : Type} (cx cy sd w h : Int) (pb po : List Int) (fl ke sw be we : Int) (ax ay vx vy sp : Int) (l : List BrI) (m : Int) (hi : iceB cx cy sd w h pb po = true) (hg : graB fl ke sw be we = true) (hm : movB ax ay vx vy sp = true) (hl : l.all brmB = true) (h0 : 0 ≤ m ∧ m ≤ 6000) (k : AOut → Option α) : grT (m.toNat + 1) cx cy sd w h pb po fl ke sw be we ax ay vx vy sp l m k = k (rnO true (gRL cx cy sd w h pb po fl ke sw be we ax ay vx vy sp l m) (ax, ay, vx, vy, sp)) := by
  unfold grT
  refine (run_loop (S := St5) (A := Unit) (gnx cx cy sd w h pb po fl ke sw be we l) z5 st12 (fun _ _ => ()) (k (rnErr 4)) (b := 0) (M := m.toNat) (fun _ _ s => mov5 s = true) (fun i a s hM hv hz => ?_) (fun i a s hM hv hz => ?_) (fun a s hv => ?_) m.toNat 0 () (ax, ay, vx, vy, sp) (by omega) hm (m.toNat + 1) (by omega)).trans ?_
  · have e1 : decide (((i : Nat) : Int) < m) = true := decide_eq_true (by omega)
    have e2 : IntKind.i64.wrap ((i : Int) + 1) = ((i + 1 : Nat) : Int) := by rw [i64_in _ (by omega)]; rfl
    have e : grF cx cy sd w h pb po fl ke sw be we l m (k (rnErr 4)) (st12 i a s) = match gnx cx cy sd w h pb po fl ke sw be we l i s with | none => finL (k (rnErr 4)) | some s' => some (.cont (st12 (i + 1) () s')) := by
      unfold grF st12
      simp only [e1, cond_true]
      rw [show (!(s.2.2.1 == 0 && (s.2.2.2.1 == 0 && true))) = true from congrArg (!·) hz, hl, rgt5 cx cy sd w h pb po fl ke sw be we l i s hi hg hl hv, cond_true, cond_true, cond_true, e2]
      exact gnx_step cx cy sd w h pb po fl ke sw be we l i s _ _
    rw [e]
    refine ⟨fun hn => by rw [hn], fun s' hn => ⟨by rw [hn], gnx_mov cx cy sd w h pb po fl ke sw be we l i s s' hv hn⟩⟩
  · have e1 : decide (((i : Nat) : Int) < m) = true := decide_eq_true (by omega)
    unfold grF st12
    simp only [e1, cond_true]
    rw [show (!(s.2.2.1 == 0 && (s.2.2.2.1 == 0 && true))) = false from congrArg (!·) hz]
    rfl
  · have e1 : decide (((m.toNat : Nat) : Int) < m) = false := decide_eq_false (by omega)
    unfold grF st12
    simp only [e1, cond_false]
  · unfold gRL
    cases runL (gnx cx cy sd w h pb po fl ke sw be we l) z5 m.toNat 0 (ax, ay, vx, vy, sp) with
    | none => rfl
    | some L => simp only [st12, Nat.zero_add]; rfl
theorem gRun_fin (cx cy sd w h : Int) (pb po : List Int) (fl ke sw be we : Int) (ax ay vx vy sp : Int) (l : List BrI) (m : Int) (hs : ∀ qSm ∈ ([.agg [.int .i64 cx, .int .i64 cy, .int .i64 sd, .int .i64 w, .int .i64 h, .ro (.int .i64) pb, .ro (.int .i64) po], .agg [.int .i64 fl, .int .i64 ke, .int .i64 sw, .int .i64 be, .int .i64 we], .agg [.int .i64 ax, .int .i64 ay, .int .i64 vx, .int .i64 vy, .int .i64 sp], .ro (.recd (.cons (.int .i64) (.cons (.int .i64) (.cons (.int .i64) .nil)))) l, .int .i64 m] : List AVal), Sm qSm) : ∃ N n, ∀ α (k : AOut → Option α), evFn real tab ((twY fsG6 spG).env real tab N n) N Tryz.f14 α [.agg [.int .i64 cx, .int .i64 cy, .int .i64 sd, .int .i64 w, .int .i64 h, .ro (.int .i64) pb, .ro (.int .i64) po], .agg [.int .i64 fl, .int .i64 ke, .int .i64 sw, .int .i64 be, .int .i64 we], .agg [.int .i64 ax, .int .i64 ay, .int .i64 vx, .int .i64 vy, .int .i64 sp], .ro (.recd (.cons (.int .i64) (.cons (.int .i64) (.cons (.int .i64) .nil)))) l, .int .i64 m] k = k (rnO (rnB cx cy sd w h pb po fl ke sw be we ax ay vx vy sp l m) (gRL cx cy sd w h pb po fl ke sw be we ax ay vx vy sp l m) (ax, ay, vx, vy, sp)) := by
  refine ⟨m.toNat + 1, 12, fun α k => (gRun_text (m.toNat + 1) 0 α cx cy sd w h pb po fl ke sw be we ax ay vx vy sp l m k).trans ?_⟩
  unfold rnB tckB
  cases hi : iceB cx cy sd w h pb po
  · rfl
  cases hg : graB fl ke sw be we
  · rfl
  cases hm : movB ax ay vx vy sp
  · rfl
  cases hb : brsB l
  · rfl
  cases h1 : decide (0 ≤ m)
  · rfl
  cases h2 : decide (m ≤ 6000)
  · rfl
  have hb' := hb
  unfold brsB at hb'
  rw [Bool.and_eq_true] at hb'
  exact grT_fin cx cy sd w h pb po fl ke sw be we ax ay vx vy sp l m hi hg hm hb'.2 ⟨of_decide_eq_true h1, of_decide_eq_true h2⟩ k
noncomputable def gRunS : Fsp := fun _ args k => match args with
  | [.agg [.int .i64 cx, .int .i64 cy, .int .i64 sd, .int .i64 w, .int .i64 h, .ro (.int .i64) pb, .ro (.int .i64) po], .agg [.int .i64 fl, .int .i64 ke, .int .i64 sw, .int .i64 be, .int .i64 we], .agg [.int .i64 ax, .int .i64 ay, .int .i64 vx, .int .i64 vy, .int .i64 sp], .ro (.recd (.cons (.int .i64) (.cons (.int .i64) (.cons (.int .i64) .nil)))) l, .int .i64 m] => k (rnO (rnB cx cy sd w h pb po fl ke sw be we ax ay vx vy sp l m) (gRL cx cy sd w h pb po fl ke sw be we ax ay vx vy sp l m) (ax, ay, vx, vy, sp))
  | _ => none
theorem gRunS_ok : FspOk Tryz.prog 14 gRunS := tower_Y fsG6_ok spG_ok ⟨Tryz.func14, fun _ _ => by kernel_rfl⟩ (by intro α args k; unfold gRunS; split <;> rfl) fun args out hSm hEq => by
  unfold gRunS at hEq
  split at hEq
  · rename_i cx cy sd w h pb po fl ke sw be we ax ay vx vy sp l m
    obtain ⟨N, n, e⟩ := gRun_fin cx cy sd w h pb po fl ke sw be we ax ay vx vy sp l m hSm
    exact ⟨N, n, (e AOut some).trans hEq⟩
  · cases hEq
/-! Way. -/
abbrev S7 := Int × List SpI × Int × Int × Int × Int × Int × Unit
noncomputable def gwF {α : Type} (cx cy sd w h : Int) (pb po : List Int) (fl ke sw be we : Int) (l : List BrI) (m : Int) (R : Option α) (x : S7) : Option (LRes S7 α) :=
  bif decide (x.1 < m) then
    bif !(x.2.2.2.2.1 == 0 && (x.2.2.2.2.2.1 == 0 && true)) then
      bif l.all brmB then
        bif rgtB cx cy sd w h pb po fl ke sw be we x.2.2.1 x.2.2.2.1 x.2.2.2.2.1 x.2.2.2.2.2.1 x.2.2.2.2.2.2.1 (strN l x.1) then
          tkStep (slwV cx cy sd w h pb po fl ke sw be we x.2.2.1 x.2.2.2.1) (bdvV cx cy sd w h pb po fl ke sw be we x.2.2.1 x.2.2.2.1) x.2.2.1 x.2.2.2.1 x.2.2.2.2.1 x.2.2.2.2.2.1 x.2.2.2.2.2.2.1 (strN l x.1) (fun a b c d e => if (x.2.1.length + ([(a, b, ())] : List SpI).length) * 16 ≤ room then some (.cont (IntKind.i64.wrap (x.1 + 1), x.2.1 ++ ([(a, b, ())] : List SpI), a, b, c, d, e, ())) else none) (finL R)
        else none
      else none
    else some (.brk 0 (x.1, x.2.1, x.2.2.1, x.2.2.2.1, x.2.2.2.2.1, x.2.2.2.2.2.1, x.2.2.2.2.2.2.1, ()))
  else some (.brk 0 (x.1, x.2.1, x.2.2.1, x.2.2.2.1, x.2.2.2.2.1, x.2.2.2.2.2.1, x.2.2.2.2.2.2.1, ()))
def gwG {α : Type} (e : Int) (L : List SpI) (x : List SpI × Int × Unit) : Option (LRes (List SpI × Int × Unit) α) :=
  bif decide (x.2.1 < (L.length : Int)) then
    if 0 ≤ x.2.1 ∧ x.2.1 < (L.length : Int) then
      if e = 0 then none
      else
        bif x.2.1.tmod e == 0 then
          if (x.1.length + ([((L.getD x.2.1.toNat spD).1, (L.getD x.2.1.toNat spD).2.1, ())] : List SpI).length) * 16 ≤ room then some (.cont (x.1 ++ [((L.getD x.2.1.toNat spD).1, (L.getD x.2.1.toNat spD).2.1, ())], IntKind.i64.wrap (x.2.1 + 1), ()))
          else none
        else bif x.2.1 == IntKind.i64.wrap ((L.length : Int) - 1) then
          if (x.1.length + ([((L.getD x.2.1.toNat spD).1, (L.getD x.2.1.toNat spD).2.1, ())] : List SpI).length) * 16 ≤ room then some (.cont (x.1 ++ [((L.getD x.2.1.toNat spD).1, (L.getD x.2.1.toNat spD).2.1, ())], IntKind.i64.wrap (x.2.1 + 1), ()))
          else none
        else some (.cont (x.1, IntKind.i64.wrap (x.2.1 + 1), ()))
    else none
  else some (.brk 0 (x.1, x.2.1, ()))
abbrev wyErr (e : Int) : AOut := .ret (.tup [.ro (.recd (.cons (.int .i64) (.cons (.int .i64) .nil))) ([] : List SpI), iN e])
def gwKK {α : Type} (N : Nat) (e : Int) (L : List SpI) (K : List SpI → Option α) : Option α :=
  afterL (iterL N (gwG e L) ([], 0, ())) fun id y => if id = 0 then K y.1 else none
noncomputable def gwTT {α : Type} (N : Nat) (cx cy sd w h : Int) (pb po : List Int) (fl ke sw be we : Int) (ax ay vx vy sp : Int) (l : List BrI) (m e : Int) (R : Option α) (K : List SpI → Option α) : Option α :=
  afterL (iterL N (gwF cx cy sd w h pb po fl ke sw be we l m R) (0, [(ax, ay, ())], ax, ay, vx, vy, sp, ())) fun id y => if id = 0 then gwKK N e y.2.1 K else none
set_option maxRecDepth 100000 in
theorem gWay_text (N n0 : Nat) (α : Type) (cx cy sd w h : Int) (pb po : List Int) (fl ke sw be we : Int) (ax ay vx vy sp : Int) (l : List BrI) (m e : Int) (k : AOut → Option α) : evFn real tab ((twY fsG6 spG).env real tab N (n0 + 12)) N Tryz.f29 α [.agg [.int .i64 cx, .int .i64 cy, .int .i64 sd, .int .i64 w, .int .i64 h, .ro (.int .i64) pb, .ro (.int .i64) po], .agg [.int .i64 fl, .int .i64 ke, .int .i64 sw, .int .i64 be, .int .i64 we], .agg [.int .i64 ax, .int .i64 ay, .int .i64 vx, .int .i64 vy, .int .i64 sp], .ro (.recd (.cons (.int .i64) (.cons (.int .i64) (.cons (.int .i64) .nil)))) l, .int .i64 m, .int .i64 e] k =
 bif !(iceB cx cy sd w h pb po && graB fl ke sw be we && movB ax ay vx vy sp && brsB l) then k (wyErr 2) else bif decide (0 ≤ m) then bif !decide (m ≤ 6000) then k (wyErr 2) else bif
 decide (1 ≤ e) then bif !decide (e ≤ 6000) then k (wyErr 2) else gwTT N cx cy sd w h pb po fl ke sw be we ax ay vx vy sp l m e (k (wyErr 4)) (fun L => k (.ret (.tup [.ro (.recd
 (.cons (.int .i64) (.cons (.int .i64) .nil))) L, iN 0]))) else k (wyErr 2) else k (wyErr 2) := by kernel_rfl
theorem gwKK_fin {α : Type} {e : Int} (he : 1 ≤ e) {L : List SpI} (hL : L.length ≤ 10000) (N : Nat) (hN : L.length < N) (K : List SpI → Option α) : gwKK N e L K = K (wayL e L L.length) := by
  unfold gwKK
  refine (count_loop (fun i : Nat => (wayL e L i, (i : Int), ())) L.length (b := 0) (y := (wayL e L L.length, (L.length : Int), ())) (fun i hi => ?_) ?_ hN).trans ?_
  · unfold gwG
    have hl := wayL_len e L i
    simp only [lt_len hi, cond_true]
    rw [if_pos (in_len hi), if_neg (by omega), i64_in ((i : Int) + 1) (by omega), wayL_next, Int.toNat_natCast]
    unfold wyP
    have hr : ((wayL e L i).length + ([((L.getD i spD).1, (L.getD i spD).2.1, ())] : List SpI).length) * 16 ≤ room := by simp only [List.length_singleton, room]; omega
    rw [if_pos hr]
    cases (i : Int).tmod e == 0
    · cases (i : Int) == IntKind.i64.wrap ((L.length : Int) - 1) <;> rfl
    · rfl
  · unfold gwG
    simp only [not_lt_len, cond_false]
  · rfl
def st7 (i : Nat) (a : List SpI) (s : St5) : S7 := ((i : Int), a, s.1, s.2.1, s.2.2.1, s.2.2.2.1, s.2.2.2.2, ())
theorem gwTT_fin {α : Type} (cx cy sd w h : Int) (pb po : List Int) (fl ke sw be we : Int) (ax ay vx vy sp : Int) (l : List BrI) (m e : Int) (hi : iceB cx cy sd w h pb po = true) (hg : graB fl ke sw be we = true) (hm : movB ax ay vx vy sp = true) (hl : l.all brmB = true) (h0 : 0 ≤ m ∧ m ≤ 6000) (he : 1 ≤ e) (N : Nat) (hN : m.toNat + 2 ≤ N) (R : Option α) (K : List SpI → Option α) : gwTT N cx cy sd w h pb po fl ke sw be we ax ay vx vy sp l m e R K = match gRL cx cy sd w h pb po fl ke sw be we ax ay vx vy sp l m with | none => R | some L => K (wayL e (((ax, ay, vx, vy, sp) :: L).map sp5) (L.length + 1)) := by
  unfold gwTT
  refine (run_loop (S := St5) (A := List SpI) (gnx cx cy sd w h pb po fl ke sw be we l) z5 st7 (fun a s => a ++ [sp5 s]) R (b := 0) (M := m.toNat) (fun i a s => mov5 s = true ∧ a.length = i + 1) (fun i a s hM hv hz => ?_) (fun i a s hM hv hz => ?_) (fun a s hv => ?_) m.toNat 0 [(ax, ay, ())] (ax, ay, vx, vy, sp) (by omega) ⟨hm, rfl⟩ N (by omega)).trans ?_
  · have e1 : decide (((i : Nat) : Int) < m) = true := decide_eq_true (by omega)
    have e2 : IntKind.i64.wrap ((i : Int) + 1) = ((i + 1 : Nat) : Int) := by rw [i64_in _ (by omega)]; rfl
    have er : (a.length + 1) * 16 ≤ room := by have := hv.2; simp only [room]; omega
    have e : gwF cx cy sd w h pb po fl ke sw be we l m R (st7 i a s) = match gnx cx cy sd w h pb po fl ke sw be we l i s with | none => finL R | some s' => some (.cont (st7 (i + 1) (a ++ [sp5 s']) s')) := by
      unfold gwF st7
      simp only [e1, cond_true]
      rw [show (!(s.2.2.1 == 0 && (s.2.2.2.1 == 0 && true))) = true from congrArg (!·) hz, hl, rgt5 cx cy sd w h pb po fl ke sw be we l i s hi hg hl hv.1, cond_true, cond_true, cond_true, e2]
      simp only [List.length_singleton, if_pos er]
      exact gnx_step cx cy sd w h pb po fl ke sw be we l i s _ _
    rw [e]
    refine ⟨fun hn => by rw [hn], fun s' hn => ⟨by rw [hn], gnx_mov cx cy sd w h pb po fl ke sw be we l i s s' hv.1 hn, by rw [List.length_append, List.length_singleton, hv.2]⟩⟩
  · have e1 : decide (((i : Nat) : Int) < m) = true := decide_eq_true (by omega)
    unfold gwF st7
    simp only [e1, cond_true]
    rw [show (!(s.2.2.1 == 0 && (s.2.2.2.1 == 0 && true))) = false from congrArg (!·) hz]
    rfl
  · have e1 : decide (((m.toNat : Nat) : Int) < m) = false := decide_eq_false (by omega)
    unfold gwF st7
    simp only [e1, cond_false]
  · unfold gRL
    cases hr : runL (gnx cx cy sd w h pb po fl ke sw be we l) z5 m.toNat 0 (ax, ay, vx, vy, sp) with
    | none => rfl
    | some L =>
      have hL := runL_len _ _ _ _ _ _ hr
      have ef : L.foldl (fun a s => a ++ [sp5 s]) [(ax, ay, ())] = ((ax, ay, vx, vy, sp) :: L).map sp5 := by rw [foldl_snoc]; rfl
      simp only [st7, ef, if_pos]
      rw [gwKK_fin he (by simp only [List.length_map, List.length_cons]; omega) _ (by simp only [List.length_map, List.length_cons]; omega)]
      simp only [List.length_map, List.length_cons]
theorem gWay_fin (cx cy sd w h : Int) (pb po : List Int) (fl ke sw be we : Int) (ax ay vx vy sp : Int) (l : List BrI) (m e : Int) (hs : ∀ qSm ∈ ([.agg [.int .i64 cx, .int .i64 cy, .int .i64 sd, .int .i64 w, .int .i64 h, .ro (.int .i64) pb, .ro (.int .i64) po], .agg [.int .i64 fl, .int .i64 ke, .int .i64 sw, .int .i64 be, .int .i64 we], .agg [.int .i64 ax, .int .i64 ay, .int .i64 vx, .int .i64 vy, .int .i64 sp], .ro (.recd (.cons (.int .i64) (.cons (.int .i64) (.cons (.int .i64) .nil)))) l, .int .i64 m, .int .i64 e] : List AVal), Sm qSm) : ∃ N n, ∀ α (k : AOut → Option α), evFn real tab ((twY fsG6 spG).env real tab N n) N Tryz.f29 α [.agg [.int .i64 cx, .int .i64 cy, .int .i64 sd, .int .i64 w, .int .i64 h, .ro (.int .i64) pb, .ro (.int .i64) po], .agg [.int .i64 fl, .int .i64 ke, .int .i64 sw, .int .i64 be, .int .i64 we], .agg [.int .i64 ax, .int .i64 ay, .int .i64 vx, .int .i64 vy, .int .i64 sp], .ro (.recd (.cons (.int .i64) (.cons (.int .i64) (.cons (.int .i64) .nil)))) l, .int .i64 m, .int .i64 e] k = k (wyO (rnB cx cy sd w h pb po fl ke sw be we ax ay vx vy sp l m && wyB e) (gRL cx cy sd w h pb po fl ke sw be we ax ay vx vy sp l m) (ax, ay, vx, vy, sp) e) := by
  refine ⟨m.toNat + 2, 12, fun α k => (gWay_text (m.toNat + 2) 0 α cx cy sd w h pb po fl ke sw be we ax ay vx vy sp l m e k).trans ?_⟩
  unfold rnB tckB wyB
  cases hi : iceB cx cy sd w h pb po
  · rfl
  cases hg : graB fl ke sw be we
  · rfl
  cases hm : movB ax ay vx vy sp
  · rfl
  cases hb : brsB l
  · rfl
  cases h1 : decide (0 ≤ m)
  · rfl
  cases h2 : decide (m ≤ 6000)
  · rfl
  cases h3 : decide (1 ≤ e)
  · rfl
  cases h4 : decide (e ≤ 6000)
  · rfl
  have hb' := hb
  unfold brsB at hb'
  rw [Bool.and_eq_true] at hb'
  refine (gwTT_fin cx cy sd w h pb po fl ke sw be we ax ay vx vy sp l m e hi hg hm hb'.2 ⟨of_decide_eq_true h1, of_decide_eq_true h2⟩ (of_decide_eq_true h3) _ (Nat.le_refl _) _ _).trans ?_
  cases gRL cx cy sd w h pb po fl ke sw be we ax ay vx vy sp l m <;> rfl
noncomputable def gWayS : Fsp := fun _ args k => match args with
  | [.agg [.int .i64 cx, .int .i64 cy, .int .i64 sd, .int .i64 w, .int .i64 h, .ro (.int .i64) pb, .ro (.int .i64) po], .agg [.int .i64 fl, .int .i64 ke, .int .i64 sw, .int .i64 be, .int .i64 we], .agg [.int .i64 ax, .int .i64 ay, .int .i64 vx, .int .i64 vy, .int .i64 sp], .ro (.recd (.cons (.int .i64) (.cons (.int .i64) (.cons (.int .i64) .nil)))) l, .int .i64 m, .int .i64 e] => k (wyO (rnB cx cy sd w h pb po fl ke sw be we ax ay vx vy sp l m && wyB e) (gRL cx cy sd w h pb po fl ke sw be we ax ay vx vy sp l m) (ax, ay, vx, vy, sp) e)
  | _ => none
theorem gWayS_ok : FspOk Tryz.prog 29 gWayS := tower_Y fsG6_ok spG_ok ⟨Tryz.func29, fun _ _ => by kernel_rfl⟩ (by intro α args k; unfold gWayS; split <;> rfl) fun args out hSm hEq => by
  unfold gWayS at hEq
  split at hEq
  · rename_i cx cy sd w h pb po fl ke sw be we ax ay vx vy sp l m e
    obtain ⟨N, n, e⟩ := gWay_fin cx cy sd w h pb po fl ke sw be we ax ay vx vy sp l m e hSm
    exact ⟨N, n, (e AOut some).trans hEq⟩
  · cases hEq
noncomputable def fsG7 : FuncId → Option Fsp := fun g =>
  if g = 14 then some gRunS else
  if g = 29 then some gWayS else
  fsG6 g
theorem fsG7_ok : FsOk fsG7 :=
  fs_cons gRunS_ok <|
  fs_cons gWayS_ok <|
  fsG6_ok
end Go.Proofs.YtgpljldfbhkdlaaGreat

namespace Go.Proofs.YtgpljldfbhkdlaaGreat
open Go.RowKit
def mvD : MvI := ((0, 0, ()), (0, 0, ()), 0, ())
theorem map_last {S B : Type} (f : S → B) (d : B) : ∀ (l : List S) (s : S), ((s :: l).map f).getD l.length d = f (lastD s l)
  | [], _ => rfl
  | x :: l, s => by
    have := map_last f d l x
    rw [List.map_cons] at this ⊢
    exact this
theorem map_spot (X : List St5) : ∀ i : Nat, ((X.map toMv).getD i mvD).1 = (X.map sp5).getD i spD := by
  induction X with
  | nil => intro i; rfl
  | cons s X ih =>
    intro i
    cases i with
    | zero => rfl
    | succ i => exact ih i
noncomputable def rRK {α : Type} (O : Option (List St5)) (L : List MvI) (k : AOut → Option α) : Option α :=
  bif rnE O != 0 then k (.ret (.tup [.agg [iN 0, iN 0, iN 0, iN 0, iN 0], iN 0, iN (rnE O)]))
  else if 0 ≤ IntKind.i64.wrap ((L.length : Int) - 1) ∧ IntKind.i64.wrap ((L.length : Int) - 1) < (L.length : Int) then
    k (.ret (.tup [.agg [iN (L.getD (IntKind.i64.wrap ((L.length : Int) - 1)).toNat mvD).1.1, iN (L.getD (IntKind.i64.wrap ((L.length : Int) - 1)).toNat mvD).1.2.1, iN (L.getD (IntKind.i64.wrap ((L.length : Int) - 1)).toNat mvD).2.1.1, iN (L.getD (IntKind.i64.wrap ((L.length : Int) - 1)).toNat mvD).2.1.2.1, iN (L.getD (IntKind.i64.wrap ((L.length : Int) - 1)).toNat mvD).2.2.1], iN (IntKind.i64.wrap ((L.length : Int) - 1)), iN 0]))
  else none
theorem rRK_fin {α : Type} (O : Option (List St5)) (s : St5) (hO : ∀ l, O = some l → l.length ≤ 6000) (k : AOut → Option α) : rRK O (allM O s) k = k (rnO true O s) := by
  cases O with
  | none => rfl
  | some l =>
    have hl := hO l rfl
    have e : IntKind.i64.wrap (((allM (some l) s).length : Int) - 1) = (l.length : Int) := by
      unfold allM
      rw [List.length_map, List.length_cons, i64_in _ (by omega)]; omega
    have h2 : (l.length : Int) < ((allM (some l) s).length : Int) := by
      unfold allM
      rw [List.length_map, List.length_cons]; omega
    unfold rRK
    rw [e, if_pos ⟨by omega, h2⟩, Int.toNat_natCast]
    unfold allM
    rw [map_last toMv mvD l s]
    rfl
noncomputable def rWG {α : Type} (e : Int) (L : List MvI) (x : List SpI × Int × Unit) : Option (LRes (List SpI × Int × Unit) α) :=
  bif decide (x.2.1 < (L.length : Int)) then
    if e = 0 then none
    else bif x.2.1.tmod e == 0 then
      if 0 ≤ x.2.1 ∧ x.2.1 < (L.length : Int) then
        if (x.1.length + ([((L.getD x.2.1.toNat mvD).1.1, (L.getD x.2.1.toNat mvD).1.2.1, ())] : List SpI).length) * 16 ≤ room then some (.cont (x.1 ++ [((L.getD x.2.1.toNat mvD).1.1, (L.getD x.2.1.toNat mvD).1.2.1, ())], IntKind.i64.wrap (x.2.1 + 1), ())) else none
      else none
    else bif x.2.1 == IntKind.i64.wrap ((L.length : Int) - 1) then
      if 0 ≤ x.2.1 ∧ x.2.1 < (L.length : Int) then
        if (x.1.length + ([((L.getD x.2.1.toNat mvD).1.1, (L.getD x.2.1.toNat mvD).1.2.1, ())] : List SpI).length) * 16 ≤ room then some (.cont (x.1 ++ [((L.getD x.2.1.toNat mvD).1.1, (L.getD x.2.1.toNat mvD).1.2.1, ())], IntKind.i64.wrap (x.2.1 + 1), ())) else none
      else none
    else some (.cont (x.1, IntKind.i64.wrap (x.2.1 + 1), ()))
  else some (.brk 0 (x.1, x.2.1, ()))
noncomputable def rWK {α : Type} (N : Nat) (O : Option (List St5)) (L : List MvI) (e : Int) (k : AOut → Option α) : Option α :=
  bif rnE O != 0 then k (wyErr (rnE O))
  else afterL (iterL N (rWG e L) ([], 0, ())) fun id y => if id = 0 then k (.ret (.tup [.ro (.recd (.cons (.int .i64) (.cons (.int .i64) .nil))) y.1, iN 0])) else none
theorem rWK_fin {α : Type} (O : Option (List St5)) (s : St5) (hO : ∀ l, O = some l → l.length ≤ 6000) {e : Int} (he : 1 ≤ e) (k : AOut → Option α) : rWK 6002 O (allM O s) e k = k (wyO true O s e) := by
  cases O with
  | none => rfl
  | some l =>
    have hl := hO l rfl
    unfold rWK
    rw [show (rnE (some l) != 0) = false from rfl, cond_false]
    have hlen : (allM (some l) s).length = l.length + 1 := by unfold allM; rw [List.length_map, List.length_cons]
    have hlen2 : ((s :: l).map sp5).length = l.length + 1 := by rw [List.length_map, List.length_cons]
    have hsp : ∀ i : Nat, ((allM (some l) s).getD i mvD).1 = ((s :: l).map sp5).getD i spD := fun i => map_spot (s :: l) i
    show _ = k (.ret (.tup [.ro (.recd (.cons (.int .i64) (.cons (.int .i64) .nil))) (wayL e ((s :: l).map sp5) (l.length + 1) : List SpI), iN 0]))
    generalize allM (some l) s = LM at *
    generalize (s :: l).map sp5 = LS at *
    refine (count_loop (fun i : Nat => (wayL e LS i, (i : Int), ())) LM.length (b := 0) (y := (wayL e LS LM.length, (LM.length : Int), ())) (fun i hi => ?_) ?_ (by omega)).trans ?_
    · unfold rWG
      have hll := wayL_len e LS i
      simp only [lt_len hi, cond_true]
      rw [if_neg (by omega), if_pos (in_len hi), i64_in ((i : Int) + 1) (by omega), wayL_next, Int.toNat_natCast, hsp i]
      unfold wyP
      have hr : ((wayL e LS i).length + ([((LS.getD i spD).1, (LS.getD i spD).2.1, ())] : List SpI).length) * 16 ≤ room := by simp only [List.length_singleton, room]; omega
      rw [if_pos hr, hlen, hlen2]
      cases (i : Int).tmod e == 0
      · cases (i : Int) == IntKind.i64.wrap (((l.length + 1 : Nat) : Int) - 1) <;> rfl
      · rfl
    · unfold rWG
      simp only [not_lt_len, cond_false]
    · rw [hlen]; rfl
set_option maxRecDepth 100000 in
theorem rRun_text (N n0 : Nat) (α : Type) (cx cy sd w h : Int) (pb po : List Int) (fl ke sw be we : Int) (ax ay vx vy sp : Int) (l : List BrI) (m : Int) (k : AOut → Option α) : evFn real tab ((twY fnRd spL).env real tab N (n0 + 8)) N Tryz.f28 α [.agg [.int .i64 cx, .int .i64 cy, .int .i64 sd, .int .i64 w, .int .i64 h, .ro (.int .i64) pb, .ro (.int .i64) po], .agg [.int .i64 fl, .int .i64 ke, .int .i64 sw, .int .i64 be, .int .i64 we], .agg [.int .i64 ax, .int .i64 ay, .int .i64 vx, .int .i64 vy, .int .i64 sp], .ro (.recd (.cons (.int .i64) (.cons (.int .i64) (.cons (.int .i64) .nil)))) l, .int .i64 m] k =
 bif iceB cx cy sd w h pb po then bif graB fl ke sw be we then bif movB ax ay vx vy sp then bif !brsB l then k (rnErr 2) else bif decide (0 ≤ m) then bif !decide (m ≤ 6000) then k
 (rnErr 2) else bif rnB cx cy sd w h pb po fl ke sw be we ax ay vx vy sp l m then rRK (gRL cx cy sd w h pb po fl ke sw be we ax ay vx vy sp l m) (allM (gRL cx cy sd w h pb po fl ke
 sw be we ax ay vx vy sp l m) (ax, ay, vx, vy, sp)) k else none else k (rnErr 2) else k (rnErr 2) else k (rnErr 2) else k (rnErr 2) := by kernel_rfl
set_option maxRecDepth 100000 in
theorem rWay_text (N n0 : Nat) (α : Type) (cx cy sd w h : Int) (pb po : List Int) (fl ke sw be we : Int) (ax ay vx vy sp : Int) (l : List BrI) (m e : Int) (k : AOut → Option α) : evFn real tab ((twY fnRd spL).env real tab N (n0 + 8)) N Tryz.f30 α [.agg [.int .i64 cx, .int .i64 cy, .int .i64 sd, .int .i64 w, .int .i64 h, .ro (.int .i64) pb, .ro (.int .i64) po], .agg [.int .i64 fl, .int .i64 ke, .int .i64 sw, .int .i64 be, .int .i64 we], .agg [.int .i64 ax, .int .i64 ay, .int .i64 vx, .int .i64 vy, .int .i64 sp], .ro (.recd (.cons (.int .i64) (.cons (.int .i64) (.cons (.int .i64) .nil)))) l, .int .i64 m, .int .i64 e] k =
 bif iceB cx cy sd w h pb po then bif graB fl ke sw be we then bif movB ax ay vx vy sp then bif !brsB l then k (wyErr 2) else bif decide (0 ≤ m) then bif !decide (m ≤ 6000) then k
 (wyErr 2) else bif decide (1 ≤ e) then bif !decide (e ≤ 6000) then k (wyErr 2) else bif rnB cx cy sd w h pb po fl ke sw be we ax ay vx vy sp l m then rWK N (gRL cx cy sd w h pb po
 fl ke sw be we ax ay vx vy sp l m) (allM (gRL cx cy sd w h pb po fl ke sw be we ax ay vx vy sp l m) (ax, ay, vx, vy, sp)) e k else none else k (wyErr 2) else k (wyErr 2) else k
 (wyErr 2) else k (wyErr 2) else k (wyErr 2) := by kernel_rfl
theorem gRL_len (cx cy sd w h : Int) (pb po : List Int) (fl ke sw be we : Int) (ax ay vx vy sp : Int) (l : List BrI) {m : Int} (hm : 0 ≤ m ∧ m ≤ 6000) : ∀ L, gRL cx cy sd w h pb po fl ke sw be we ax ay vx vy sp l m = some L → L.length ≤ 6000 := fun L hL => by
  have := runL_len _ _ _ _ _ _ hL
  omega
theorem rRun_fin (cx cy sd w h : Int) (pb po : List Int) (fl ke sw be we : Int) (ax ay vx vy sp : Int) (l : List BrI) (m : Int) (hs : ∀ qSm ∈ ([.agg [.int .i64 cx, .int .i64 cy, .int .i64 sd, .int .i64 w, .int .i64 h, .ro (.int .i64) pb, .ro (.int .i64) po], .agg [.int .i64 fl, .int .i64 ke, .int .i64 sw, .int .i64 be, .int .i64 we], .agg [.int .i64 ax, .int .i64 ay, .int .i64 vx, .int .i64 vy, .int .i64 sp], .ro (.recd (.cons (.int .i64) (.cons (.int .i64) (.cons (.int .i64) .nil)))) l, .int .i64 m] : List AVal), Sm qSm) : ∃ N n, ∀ α (k : AOut → Option α), evFn real tab ((twY fnRd spL).env real tab N n) N Tryz.f28 α [.agg [.int .i64 cx, .int .i64 cy, .int .i64 sd, .int .i64 w, .int .i64 h, .ro (.int .i64) pb, .ro (.int .i64) po], .agg [.int .i64 fl, .int .i64 ke, .int .i64 sw, .int .i64 be, .int .i64 we], .agg [.int .i64 ax, .int .i64 ay, .int .i64 vx, .int .i64 vy, .int .i64 sp], .ro (.recd (.cons (.int .i64) (.cons (.int .i64) (.cons (.int .i64) .nil)))) l, .int .i64 m] k = k (rnO (rnB cx cy sd w h pb po fl ke sw be we ax ay vx vy sp l m) (gRL cx cy sd w h pb po fl ke sw be we ax ay vx vy sp l m) (ax, ay, vx, vy, sp)) := by
  refine ⟨8, 8, fun α k => (rRun_text 8 0 α cx cy sd w h pb po fl ke sw be we ax ay vx vy sp l m k).trans ?_⟩
  have hRK := fun hm => rRK_fin (gRL cx cy sd w h pb po fl ke sw be we ax ay vx vy sp l m) (ax, ay, vx, vy, sp) (gRL_len cx cy sd w h pb po fl ke sw be we ax ay vx vy sp l (m := m) hm) k
  unfold rnB tckB
  cases hi : iceB cx cy sd w h pb po
  · rfl
  cases hg : graB fl ke sw be we
  · rfl
  cases hm : movB ax ay vx vy sp
  · rfl
  cases hb : brsB l
  · rfl
  cases h1 : decide (0 ≤ m)
  · rfl
  cases h2 : decide (m ≤ 6000)
  · rfl
  exact hRK ⟨of_decide_eq_true h1, of_decide_eq_true h2⟩
noncomputable def rRunS : Fsp := fun _ args k => match args with
  | [.agg [.int .i64 cx, .int .i64 cy, .int .i64 sd, .int .i64 w, .int .i64 h, .ro (.int .i64) pb, .ro (.int .i64) po], .agg [.int .i64 fl, .int .i64 ke, .int .i64 sw, .int .i64 be, .int .i64 we], .agg [.int .i64 ax, .int .i64 ay, .int .i64 vx, .int .i64 vy, .int .i64 sp], .ro (.recd (.cons (.int .i64) (.cons (.int .i64) (.cons (.int .i64) .nil)))) l, .int .i64 m] => k (rnO (rnB cx cy sd w h pb po fl ke sw be we ax ay vx vy sp l m) (gRL cx cy sd w h pb po fl ke sw be we ax ay vx vy sp l m) (ax, ay, vx, vy, sp))
  | _ => none
theorem rRunS_ok : FspOk Tryz.prog 28 rRunS := tower_Y fnRd_ok spL_ok ⟨Tryz.func28, fun _ _ => by kernel_rfl⟩ (by intro α args k; unfold rRunS; split <;> rfl) fun args out hSm hEq => by
  unfold rRunS at hEq
  split at hEq
  · rename_i cx cy sd w h pb po fl ke sw be we ax ay vx vy sp l m
    obtain ⟨N, n, e⟩ := rRun_fin cx cy sd w h pb po fl ke sw be we ax ay vx vy sp l m hSm
    exact ⟨N, n, (e AOut some).trans hEq⟩
  · cases hEq
theorem rWay_fin (cx cy sd w h : Int) (pb po : List Int) (fl ke sw be we : Int) (ax ay vx vy sp : Int) (l : List BrI) (m e : Int) (hs : ∀ qSm ∈ ([.agg [.int .i64 cx, .int .i64 cy, .int .i64 sd, .int .i64 w, .int .i64 h, .ro (.int .i64) pb, .ro (.int .i64) po], .agg [.int .i64 fl, .int .i64 ke, .int .i64 sw, .int .i64 be, .int .i64 we], .agg [.int .i64 ax, .int .i64 ay, .int .i64 vx, .int .i64 vy, .int .i64 sp], .ro (.recd (.cons (.int .i64) (.cons (.int .i64) (.cons (.int .i64) .nil)))) l, .int .i64 m, .int .i64 e] : List AVal), Sm qSm) : ∃ N n, ∀ α (k : AOut → Option α), evFn real tab ((twY fnRd spL).env real tab N n) N Tryz.f30 α [.agg [.int .i64 cx, .int .i64 cy, .int .i64 sd, .int .i64 w, .int .i64 h, .ro (.int .i64) pb, .ro (.int .i64) po], .agg [.int .i64 fl, .int .i64 ke, .int .i64 sw, .int .i64 be, .int .i64 we], .agg [.int .i64 ax, .int .i64 ay, .int .i64 vx, .int .i64 vy, .int .i64 sp], .ro (.recd (.cons (.int .i64) (.cons (.int .i64) (.cons (.int .i64) .nil)))) l, .int .i64 m, .int .i64 e] k = k (wyO (rnB cx cy sd w h pb po fl ke sw be we ax ay vx vy sp l m && wyB e) (gRL cx cy sd w h pb po fl ke sw be we ax ay vx vy sp l m) (ax, ay, vx, vy, sp) e) := by
  refine ⟨6002, 8, fun α k => (rWay_text 6002 0 α cx cy sd w h pb po fl ke sw be we ax ay vx vy sp l m e k).trans ?_⟩
  have hRK := fun hm he => rWK_fin (gRL cx cy sd w h pb po fl ke sw be we ax ay vx vy sp l m) (ax, ay, vx, vy, sp) (gRL_len cx cy sd w h pb po fl ke sw be we ax ay vx vy sp l (m := m) hm) (e := e) he k
  unfold rnB tckB wyB
  cases hi : iceB cx cy sd w h pb po
  · rfl
  cases hg : graB fl ke sw be we
  · rfl
  cases hm : movB ax ay vx vy sp
  · rfl
  cases hb : brsB l
  · rfl
  cases h1 : decide (0 ≤ m)
  · rfl
  cases h2 : decide (m ≤ 6000)
  · rfl
  cases h3 : decide (1 ≤ e)
  · rfl
  cases h4 : decide (e ≤ 6000)
  · rfl
  exact hRK ⟨of_decide_eq_true h1, of_decide_eq_true h2⟩ (of_decide_eq_true h3)
noncomputable def rWayS : Fsp := fun _ args k => match args with
  | [.agg [.int .i64 cx, .int .i64 cy, .int .i64 sd, .int .i64 w, .int .i64 h, .ro (.int .i64) pb, .ro (.int .i64) po], .agg [.int .i64 fl, .int .i64 ke, .int .i64 sw, .int .i64 be, .int .i64 we], .agg [.int .i64 ax, .int .i64 ay, .int .i64 vx, .int .i64 vy, .int .i64 sp], .ro (.recd (.cons (.int .i64) (.cons (.int .i64) (.cons (.int .i64) .nil)))) l, .int .i64 m, .int .i64 e] => k (wyO (rnB cx cy sd w h pb po fl ke sw be we ax ay vx vy sp l m && wyB e) (gRL cx cy sd w h pb po fl ke sw be we ax ay vx vy sp l m) (ax, ay, vx, vy, sp) e)
  | _ => none
theorem rWayS_ok : FspOk Tryz.prog 30 rWayS := tower_Y fnRd_ok spL_ok ⟨Tryz.func30, fun _ _ => by kernel_rfl⟩ (by intro α args k; unfold rWayS; split <;> rfl) fun args out hSm hEq => by
  unfold rWayS at hEq
  split at hEq
  · rename_i cx cy sd w h pb po fl ke sw be we ax ay vx vy sp l m e
    obtain ⟨N, n, e⟩ := rWay_fin cx cy sd w h pb po fl ke sw be we ax ay vx vy sp l m e hSm
    exact ⟨N, n, (e AOut some).trans hEq⟩
  · cases hEq
end Go.Proofs.YtgpljldfbhkdlaaGreat

namespace Go.Proofs.YtgpljldfbhkdlaaGreat
open Go.RowKit
/-! Pass and Sweep, where they have no error. -/
noncomputable def ipassOS : Fsp := fun _ args k => match args with
  | [.agg [.int .i64 cx, .int .i64 cy, .int .i64 sd, .int .i64 w, .int .i64 h, .ro (.int .i64) pb, .ro (.int .i64) po], .agg [.int .i64 fl, .int .i64 ke, .int .i64 sw, .int .i64 be, .int .i64 we], .agg [.int .i64 x, .int .i64 y], .agg [.int .i64 u, .int .i64 v]] => bif pasB cx cy sd w h pb po fl ke sw be we x y u v then k (.ret (.tup [.agg [iN cx, iN cy, iN sd, iN w, iN h, .ro (.int .i64) (chgL (fun i => toB cx cy sd w x y u v i) (fun i => wornV i we) pb : List Int), .ro (.int .i64) po], iN 0])) else none
  | _ => none
theorem ipassOS_ok : FspOk Tryz.prog 72 ipassOS := fsp_sim ipassTS_ok (by intro α args k; unfold ipassOS; split <;> simp only [cond_bind, Option.bind_some, Option.bind_none]) fun args out hq => by
  unfold ipassOS at hq
  split at hq
  · rename_i cx cy sd w h pb po fl ke sw be we x y u v
    have hq : (bif pasB cx cy sd w h (pb : List Int) (po : List Int) fl ke sw be we x y u v then some (AOut.ret (.tup [.agg [iN cx, iN cy, iN sd, iN w, iN h, .ro (.int .i64) (chgL (fun i => toB cx cy sd w x y u v i) (fun i => wornV i we) pb : List Int), .ro (.int .i64) po], iN 0])) else none) = some out := hq
    cases hc : pasB cx cy sd w h (pb : List Int) (po : List Int) fl ke sw be we x y u v
    · rw [hc] at hq; cases hq
    · rw [hc] at hq
      cases hq
      refine ⟨_, _, rfl, ?_, .refl _⟩
      show some (icT (pasB cx cy sd w h (pb : List Int) (po : List Int) fl ke sw be we x y u v) cx cy sd w h (chgL (fun i => toB cx cy sd w x y u v i) (fun i => wornV i we) pb) po) = _
      rw [hc]; rfl
  · cases hq
noncomputable def isweepOS : Fsp := fun _ args k => match args with
  | [.agg [.int .i64 cx, .int .i64 cy, .int .i64 sd, .int .i64 w, .int .i64 h, .ro (.int .i64) pb, .ro (.int .i64) po], .agg [.int .i64 x, .int .i64 y], .agg [.int .i64 u, .int .i64 v], .int .i64 b] => bif twB cx cy sd w h pb po x y u v && grnB b then k (.ret (.tup [.agg [iN cx, iN cy, iN sd, iN w, iN h, .ro (.int .i64) pb, .ro (.int .i64) (chgL (fun i => toB cx cy sd w x y u v i) (fun i => moreV i b) po : List Int)], iN 0])) else none
  | _ => none
theorem isweepOS_ok : FspOk Tryz.prog 73 isweepOS := fsp_sim isweepTS_ok (by intro α args k; unfold isweepOS; split <;> simp only [cond_bind, Option.bind_some, Option.bind_none]) fun args out hq => by
  unfold isweepOS at hq
  split at hq
  · rename_i cx cy sd w h pb po x y u v b
    have hq : (bif twB cx cy sd w h (pb : List Int) (po : List Int) x y u v && grnB b then some (AOut.ret (.tup [.agg [iN cx, iN cy, iN sd, iN w, iN h, .ro (.int .i64) pb, .ro (.int .i64) (chgL (fun i => toB cx cy sd w x y u v i) (fun i => moreV i b) po : List Int)], iN 0])) else none) = some out := hq
    cases hc : (twB cx cy sd w h (pb : List Int) (po : List Int) x y u v && grnB b)
    · rw [hc] at hq; cases hq
    · rw [hc] at hq
      cases hq
      refine ⟨_, _, rfl, ?_, .refl _⟩
      show some (icT (twB cx cy sd w h (pb : List Int) (po : List Int) x y u v && grnB b) cx cy sd w h pb (chgL (fun i => toB cx cy sd w x y u v i) (fun i => moreV i b) po)) = _
      rw [hc]; rfl
  · cases hq
noncomputable def fsG8 : FuncId → Option Fsp := fun g =>
  if g = 72 then some ipassOS else
  if g = 73 then some isweepOS else
  fsG7 g
theorem fsG8_ok : FsOk fsG8 :=
  fs_cons ipassOS_ok <|
  fs_cons isweepOS_ok <|
  fsG7_ok
abbrev S20 := Int × Int × Int × Int × Int × Int × Int × Int × Int × Int × Int × Int × Int × List Int × List Int × Int × Int × Int × Int × Int × Unit
noncomputable def gnS {α : Type} (n : Int) (x : S20) (a b c d e : Int) : Option (LRes S20 α) :=
  bif c == 0 && (d == 0 && true) then some (.cont (IntKind.i64.wrap (x.1 + 1), x.2.1, x.2.2.1, x.2.2.2.1, x.2.2.2.2.1, x.2.2.2.2.2.1, x.2.2.2.2.2.2.1, x.2.2.2.2.2.2.2.1, x.2.2.2.2.2.2.2.2.1, x.2.2.2.2.2.2.2.2.2.1, x.2.2.2.2.2.2.2.2.2.2.1, x.2.2.2.2.2.2.2.2.2.2.2.1, x.2.2.2.2.2.2.2.2.2.2.2.2.1, x.2.2.2.2.2.2.2.2.2.2.2.2.2.1, x.2.2.2.2.2.2.2.2.2.2.2.2.2.2.1, a, b, c, d, e, ()))
  else bif pasB x.2.2.2.2.2.2.2.2.1 x.2.2.2.2.2.2.2.2.2.1 x.2.2.2.2.2.2.2.2.2.2.1 x.2.2.2.2.2.2.2.2.2.2.2.1 x.2.2.2.2.2.2.2.2.2.2.2.2.1 x.2.2.2.2.2.2.2.2.2.2.2.2.2.1 x.2.2.2.2.2.2.2.2.2.2.2.2.2.2.1 x.2.1 x.2.2.1 x.2.2.2.1 x.2.2.2.2.1 x.2.2.2.2.2.1 x.2.2.2.2.2.2.1 x.2.2.2.2.2.2.2.1 a b then
    bif decide (n > 0) then
      bif twB x.2.2.2.2.2.2.2.2.1 x.2.2.2.2.2.2.2.2.2.1 x.2.2.2.2.2.2.2.2.2.2.1 x.2.2.2.2.2.2.2.2.2.2.2.1 x.2.2.2.2.2.2.2.2.2.2.2.2.1 (chgL (fun i => toB x.2.2.2.2.2.2.2.2.1 x.2.2.2.2.2.2.2.2.2.1 x.2.2.2.2.2.2.2.2.2.2.1 x.2.2.2.2.2.2.2.2.2.2.2.1 x.2.2.2.2.2.2.1 x.2.2.2.2.2.2.2.1 a b i) (fun i => wornV i x.2.2.2.2.2.1) x.2.2.2.2.2.2.2.2.2.2.2.2.2.1) x.2.2.2.2.2.2.2.2.2.2.2.2.2.2.1 x.2.2.2.2.2.2.1 x.2.2.2.2.2.2.2.1 a b && grnB n then
        some (.cont (IntKind.i64.wrap (x.1 + 1), x.2.1, x.2.2.1, x.2.2.2.1, x.2.2.2.2.1, x.2.2.2.2.2.1, a, b, x.2.2.2.2.2.2.2.2.1, x.2.2.2.2.2.2.2.2.2.1, x.2.2.2.2.2.2.2.2.2.2.1, x.2.2.2.2.2.2.2.2.2.2.2.1, x.2.2.2.2.2.2.2.2.2.2.2.2.1, chgL (fun i => toB x.2.2.2.2.2.2.2.2.1 x.2.2.2.2.2.2.2.2.2.1 x.2.2.2.2.2.2.2.2.2.2.1 x.2.2.2.2.2.2.2.2.2.2.2.1 x.2.2.2.2.2.2.1 x.2.2.2.2.2.2.2.1 a b i) (fun i => wornV i x.2.2.2.2.2.1) x.2.2.2.2.2.2.2.2.2.2.2.2.2.1, chgL (fun i => toB x.2.2.2.2.2.2.2.2.1 x.2.2.2.2.2.2.2.2.2.1 x.2.2.2.2.2.2.2.2.2.2.1 x.2.2.2.2.2.2.2.2.2.2.2.1 x.2.2.2.2.2.2.1 x.2.2.2.2.2.2.2.1 a b i) (fun i => moreV i n) x.2.2.2.2.2.2.2.2.2.2.2.2.2.2.1, a, b, c, d, e, ()))
      else none
    else some (.cont (IntKind.i64.wrap (x.1 + 1), x.2.1, x.2.2.1, x.2.2.2.1, x.2.2.2.2.1, x.2.2.2.2.2.1, a, b, x.2.2.2.2.2.2.2.2.1, x.2.2.2.2.2.2.2.2.2.1, x.2.2.2.2.2.2.2.2.2.2.1, x.2.2.2.2.2.2.2.2.2.2.2.1, x.2.2.2.2.2.2.2.2.2.2.2.2.1, chgL (fun i => toB x.2.2.2.2.2.2.2.2.1 x.2.2.2.2.2.2.2.2.2.1 x.2.2.2.2.2.2.2.2.2.2.1 x.2.2.2.2.2.2.2.2.2.2.2.1 x.2.2.2.2.2.2.1 x.2.2.2.2.2.2.2.1 a b i) (fun i => wornV i x.2.2.2.2.2.1) x.2.2.2.2.2.2.2.2.2.2.2.2.2.1, x.2.2.2.2.2.2.2.2.2.2.2.2.2.2.1, a, b, c, d, e, ()))
  else none
noncomputable def gnF {α : Type} (cx cy sd w h : Int) (pb po : List Int) (fl ke sw be we : Int) (l : List BrI) (m : Int) (R : Option α) (x : S20) : Option (LRes S20 α) :=
  bif decide (x.1 < m) then
    bif !(x.2.2.2.2.2.2.2.2.2.2.2.2.2.2.2.2.2.1 == 0 && (x.2.2.2.2.2.2.2.2.2.2.2.2.2.2.2.2.2.2.1 == 0 && true)) then
      bif l.all brmB then
        bif rgtB cx cy sd w h pb po fl ke sw be we x.2.2.2.2.2.2.2.2.2.2.2.2.2.2.2.1 x.2.2.2.2.2.2.2.2.2.2.2.2.2.2.2.2.1 x.2.2.2.2.2.2.2.2.2.2.2.2.2.2.2.2.2.1 x.2.2.2.2.2.2.2.2.2.2.2.2.2.2.2.2.2.2.1 x.2.2.2.2.2.2.2.2.2.2.2.2.2.2.2.2.2.2.2.1 (strN l x.1) then
          tkStep (slwV cx cy sd w h pb po fl ke sw be we x.2.2.2.2.2.2.2.2.2.2.2.2.2.2.2.1 x.2.2.2.2.2.2.2.2.2.2.2.2.2.2.2.2.1) (bdvV cx cy sd w h pb po fl ke sw be we x.2.2.2.2.2.2.2.2.2.2.2.2.2.2.2.1 x.2.2.2.2.2.2.2.2.2.2.2.2.2.2.2.2.1) x.2.2.2.2.2.2.2.2.2.2.2.2.2.2.2.1 x.2.2.2.2.2.2.2.2.2.2.2.2.2.2.2.2.1 x.2.2.2.2.2.2.2.2.2.2.2.2.2.2.2.2.2.1 x.2.2.2.2.2.2.2.2.2.2.2.2.2.2.2.2.2.2.1 x.2.2.2.2.2.2.2.2.2.2.2.2.2.2.2.2.2.2.2.1 (strN l x.1) (gnS (strN l x.1) x) (finL R)
        else none
      else none
    else some (.brk 0 (x.1, x.2.1, x.2.2.1, x.2.2.2.1, x.2.2.2.2.1, x.2.2.2.2.2.1, x.2.2.2.2.2.2.1, x.2.2.2.2.2.2.2.1, x.2.2.2.2.2.2.2.2.1, x.2.2.2.2.2.2.2.2.2.1, x.2.2.2.2.2.2.2.2.2.2.1, x.2.2.2.2.2.2.2.2.2.2.2.1, x.2.2.2.2.2.2.2.2.2.2.2.2.1, x.2.2.2.2.2.2.2.2.2.2.2.2.2.1, x.2.2.2.2.2.2.2.2.2.2.2.2.2.2.1, x.2.2.2.2.2.2.2.2.2.2.2.2.2.2.2.1, x.2.2.2.2.2.2.2.2.2.2.2.2.2.2.2.2.1, x.2.2.2.2.2.2.2.2.2.2.2.2.2.2.2.2.2.1, x.2.2.2.2.2.2.2.2.2.2.2.2.2.2.2.2.2.2.1, x.2.2.2.2.2.2.2.2.2.2.2.2.2.2.2.2.2.2.2.1, ()))
  else some (.brk 0 (x.1, x.2.1, x.2.2.1, x.2.2.2.1, x.2.2.2.2.1, x.2.2.2.2.2.1, x.2.2.2.2.2.2.1, x.2.2.2.2.2.2.2.1, x.2.2.2.2.2.2.2.2.1, x.2.2.2.2.2.2.2.2.2.1, x.2.2.2.2.2.2.2.2.2.2.1, x.2.2.2.2.2.2.2.2.2.2.2.1, x.2.2.2.2.2.2.2.2.2.2.2.2.1, x.2.2.2.2.2.2.2.2.2.2.2.2.2.1, x.2.2.2.2.2.2.2.2.2.2.2.2.2.2.1, x.2.2.2.2.2.2.2.2.2.2.2.2.2.2.2.1, x.2.2.2.2.2.2.2.2.2.2.2.2.2.2.2.2.1, x.2.2.2.2.2.2.2.2.2.2.2.2.2.2.2.2.2.1, x.2.2.2.2.2.2.2.2.2.2.2.2.2.2.2.2.2.2.1, x.2.2.2.2.2.2.2.2.2.2.2.2.2.2.2.2.2.2.2.1, ()))
abbrev wnErr (e : Int) : AOut := .ret (.tup [.agg [iN 0, iN 0, iN 0, iN 0, iN 0, .nils, .nils], iN e])
noncomputable def gnT {α : Type} (N : Nat) (cx cy sd w h : Int) (pb po : List Int) (fl ke sw be we : Int) (ax ay vx vy sp : Int) (l : List BrI) (m : Int) (R : Option α) (K : Int → Int → Int → Int → Int → List Int → List Int → Option α) : Option α :=
  bif decide (0 < pb.length) && decide (pb.length ≤ 65536) then
    bif decide (0 < po.length) && decide (po.length ≤ 65536) then
      afterL (iterL N (gnF cx cy sd w h pb po fl ke sw be we l m R) (0, fl, ke, sw, be, we, ax, ay, cx, cy, sd, w, h, pb, po, ax, ay, vx, vy, sp, ())) fun id y => if id = 0 then K y.2.2.2.2.2.2.2.2.1 y.2.2.2.2.2.2.2.2.2.1 y.2.2.2.2.2.2.2.2.2.2.1 y.2.2.2.2.2.2.2.2.2.2.2.1 y.2.2.2.2.2.2.2.2.2.2.2.2.1 y.2.2.2.2.2.2.2.2.2.2.2.2.2.1 y.2.2.2.2.2.2.2.2.2.2.2.2.2.2.1 else none
    else none
  else none
set_option maxRecDepth 100000 in
theorem gWorn_text (N n0 : Nat) (α : Type) (cx cy sd w h : Int) (pb po : List Int) (fl ke sw be we : Int) (ax ay vx vy sp : Int) (l : List BrI) (m : Int) (k : AOut → Option α) : evFn real tab ((twY fsG8 spG).env real tab N (n0 + 12)) N Tryz.f32 α [.agg [.int .i64 cx, .int .i64 cy, .int .i64 sd, .int .i64 w, .int .i64 h, .ro (.int .i64) pb, .ro (.int .i64) po], .agg [.int .i64 fl, .int .i64 ke, .int .i64 sw, .int .i64 be, .int .i64 we], .agg [.int .i64 ax, .int .i64 ay, .int .i64 vx, .int .i64 vy, .int .i64 sp], .ro (.recd (.cons (.int .i64) (.cons (.int .i64) (.cons (.int .i64) .nil)))) l, .int .i64 m] k =
 bif !(iceB cx cy sd w h pb po && graB fl ke sw be we && movB ax ay vx vy sp && brsB l) then k (wnErr 2) else bif decide (0 ≤ m) then bif !decide (m ≤ 6000) then k (wnErr 2) else gnT
 N cx cy sd w h pb po fl ke sw be we ax ay vx vy sp l m (k (.ret (.tup [.agg [iN 0, iN 0, iN 0, iN 0, iN 0, .ro (.int .i64) ([] : List Int), .ro (.int .i64) ([] : List Int)], iN
 4]))) fun a b c d e p q => k (.ret (.tup [.agg [iN a, iN b, iN c, iN d, iN e, .ro (.int .i64) p, .ro (.int .i64) q], iN 0])) else k (wnErr 2) := by kernel_rfl
/-! What is worn, plain. -/
abbrev WrA := Nat × (Int × Int) × List Int × List Int
noncomputable def wrUp (cx cy sd w we : Int) (l : List BrI) (a : WrA) (s : St5) : WrA :=
  bif z5 s then (a.1 + 1, a.2)
  else (a.1 + 1, (s.1, s.2.1), chgL (fun i => toB cx cy sd w a.2.1.1 a.2.1.2 s.1 s.2.1 i) (fun i => wornV i we) a.2.2.1, bif decide (strN l a.1 > 0) then chgL (fun i => toB cx cy sd w a.2.1.1 a.2.1.2 s.1 s.2.1 i) (fun i => moreV i (strN l a.1)) a.2.2.2 else a.2.2.2)
theorem worn_grn {we : Int} (hw : 0 ≤ we ∧ we ≤ 1000) {z : Int} (hz : grnB z = true) : grnB (wornV z we) = true := by
  have h := in_dec.1 hz
  refine in_dec.2 ?_
  unfold wornV
  rw [i64_in (z - we) (by omega)]
  split <;> omega
theorem more_grn {n : Int} (hn : 0 ≤ n ∧ n ≤ 1000) {z : Int} (hz : grnB z = true) : grnB (moreV z n) = true := by
  have h := in_dec.1 hz
  refine in_dec.2 ?_
  unfold moreV
  rw [i64_in (z + n) (by omega)]
  split <;> omega
theorem mov_plc0 {s : St5} (h : mov5 s = true) : plcB s.1 s.2.1 = true := (plc_iff ..).2 (mov_iff.1 h).1
theorem chg_grn {hit : Nat → Bool} {f : Int → Int} {l : List Int} (h : l.all grnB = true) (hf : ∀ z, grnB z = true → grnB (f z) = true) : (chgL hit f l).all grnB = true := by
  unfold chgL
  rw [List.all_map]
  refine List.all_eq_true.2 fun i hi => ?_
  have hlt := List.mem_range.1 hi
  have hg : grnB (l.getD i 0) = true := by
    rw [List.getD_eq_getElem?_getD, List.getElem?_eq_getElem hlt]
    exact List.all_eq_true.1 h _ (List.getElem_mem hlt)
  show grnB (bif hit i then f (l.getD i 0) else l.getD i 0) = true
  cases hit i
  · exact hg
  · exact hf _ hg
theorem ice_swap {cx cy sd w h : Int} {pb po pb' po' : List Int} (hi : iceB cx cy sd w h pb po = true) (l1 : pb'.length = pb.length) (l2 : po'.length = po.length) (g1 : pb'.all grnB = true) (g2 : po'.all grnB = true) : iceB cx cy sd w h pb' po' = true := by
  unfold iceB at hi ⊢
  rw [l1, l2, g1, g2]
  simp only [Bool.and_eq_true] at hi ⊢
  exact ⟨hi.1, by simp⟩
structure WrI (cx cy sd w h : Int) (i : Nat) (a : WrA) (s : St5) : Prop where
  i : a.1 = i
  mov : mov5 s = true
  at' : plcB a.2.1.1 a.2.1.2 = true
  ice : iceB cx cy sd w h a.2.2.1 a.2.2.2 = true
theorem wr_next {cx cy sd w h we : Int} {l : List BrI} {i : Nat} {a : WrA} {s s' : St5} (v : WrI cx cy sd w h i a s) (hw : 0 ≤ we ∧ we ≤ 1000) (hl : l.all brmB = true) (hm : mov5 s' = true) : WrI cx cy sd w h (i + 1) (wrUp cx cy sd w we l a s') s' := by
  have g := ice_is _ _ _ _ _ _ _ v.ice
  have hn := str_in hl (a.1 : Int)
  unfold wrUp
  cases z5 s'
  · simp only [cond_false]
    refine ⟨by show a.1 + 1 = i + 1; rw [v.i], hm, mov_plc0 hm, ?_⟩
    simp only
    refine ice_swap v.ice (chg_len ..) ?_ (chg_grn g.pg fun z hz => worn_grn hw hz) ?_
    · cases decide (strN l (a.1 : Int) > 0)
      · rfl
      · simp only [cond_true]; exact chg_len ..
    · cases decide (strN l (a.1 : Int) > 0)
      · exact g.og
      · exact chg_grn g.og fun z hz => more_grn hn hz
  · exact ⟨by show a.1 + 1 = i + 1; rw [v.i], hm, v.at', v.ice⟩
def st20 (cx cy sd w h : Int) (pb po : List Int) (fl ke sw be we : Int) (i : Nat) (a : WrA) (s : St5) : S20 := ((i : Int), fl, ke, sw, be, we, a.2.1.1, a.2.1.2, cx, cy, sd, w, h, a.2.2.1, a.2.2.2, s.1, s.2.1, s.2.2.1, s.2.2.2.1, s.2.2.2.2, ())
theorem gnS_fin {α : Type} (cx cy sd w h : Int) (pb po : List Int) (fl ke sw be we : Int) (l : List BrI) (hl : l.all brmB = true) (hg : graB fl ke sw be we = true) (i : Nat) (hi : i < 6000) (a : WrA) (s s' : St5) (v : WrI cx cy sd w h i a s) (hm : mov5 s' = true) : gnS (α := α) (strN l (i : Int)) (st20 cx cy sd w h pb po fl ke sw be we i a s) s'.1 s'.2.1 s'.2.2.1 s'.2.2.2.1 s'.2.2.2.2 = some (.cont (st20 cx cy sd w h pb po fl ke sw be we (i + 1) (wrUp cx cy sd w we l a s') s')) := by
  have e2 : IntKind.i64.wrap ((i : Int) + 1) = ((i + 1 : Nat) : Int) := by rw [i64_in _ (by omega)]; rfl
  have ei := v.i
  subst ei
  have hn := str_in hl (a.1 : Int)
  have gi := ice_is _ _ _ _ _ _ _ v.ice
  have gr := gra_is _ _ _ _ _ hg
  have hps : plcB s'.1 s'.2.1 = true := mov_plc0 hm
  have hP : pasB cx cy sd w h a.2.2.1 a.2.2.2 fl ke sw be we a.2.1.1 a.2.1.2 s'.1 s'.2.1 = true := by unfold pasB; rw [v.ice, hg, v.at', hps]; rfl
  have hT : (twB cx cy sd w h (chgL (fun i => toB cx cy sd w a.2.1.1 a.2.1.2 s'.1 s'.2.1 i) (fun i => wornV i we) a.2.2.1) a.2.2.2 a.2.1.1 a.2.1.2 s'.1 s'.2.1 && grnB (strN l (a.1 : Int))) = true := by
    unfold twB
    rw [ice_swap v.ice (chg_len ..) rfl (chg_grn gi.pg fun z hz => worn_grn gr.we hz) gi.og, v.at', hps, show grnB (strN l (a.1 : Int)) = true from in_dec.2 hn]; rfl
  unfold gnS st20 wrUp
  simp only [e2]
  rw [hP, hT]
  show (bif z5 s' then _ else _) = _
  cases z5 s'
  · cases decide (strN l (a.1 : Int) > 0) <;> rfl
  · rfl
theorem gnT_fin {α : Type} (cx cy sd w h : Int) (pb po : List Int) (fl ke sw be we : Int) (ax ay vx vy sp : Int) (l : List BrI) (m : Int) (hi : iceB cx cy sd w h pb po = true) (hg : graB fl ke sw be we = true) (hm : movB ax ay vx vy sp = true) (hl : l.all brmB = true) (h0 : 0 ≤ m ∧ m ≤ 6000) (N : Nat) (hN : m.toNat < N) (R : Option α) (K : Int → Int → Int → Int → Int → List Int → List Int → Option α) :
    gnT N cx cy sd w h pb po fl ke sw be we ax ay vx vy sp l m R K = match gRL cx cy sd w h pb po fl ke sw be we ax ay vx vy sp l m with | none => R | some L => K cx cy sd w h (L.foldl (wrUp cx cy sd w we l) (0, (ax, ay), pb, po)).2.2.1 (L.foldl (wrUp cx cy sd w we l) (0, (ax, ay), pb, po)).2.2.2 := by
  have gi := ice_is _ _ _ _ _ _ _ hi
  have gr := gra_is _ _ _ _ _ hg
  have mm := mul_in (a := w) (b := h) (A := 256) (B := 256) ⟨by have := gi.fw; omega, gi.fw.2⟩ ⟨by have := gi.fh; omega, gi.fh.2⟩
  have mp : 1 * 1 ≤ w * h := Int.mul_le_mul gi.fw.1 gi.fh.1 (by omega) (by have := gi.fw; omega)
  have p1 := gi.pl
  have p2 := gi.ol
  unfold gnT
  rw [decide_eq_true (show 0 < pb.length by omega), decide_eq_true (show pb.length ≤ 65536 by omega), decide_eq_true (show 0 < po.length by omega), decide_eq_true (show po.length ≤ 65536 by omega)]
  simp only [Bool.and_self, cond_true]
  refine (run_loop (S := St5) (A := WrA) (gnx cx cy sd w h pb po fl ke sw be we l) z5 (st20 cx cy sd w h pb po fl ke sw be we) (wrUp cx cy sd w we l) R (b := 0) (M := m.toNat) (WrI cx cy sd w h) (fun i a s hM hv hz => ?_) (fun i a s hM hv hz => ?_) (fun a s hv => ?_) m.toNat 0 (0, (ax, ay), pb, po) (ax, ay, vx, vy, sp) (by omega) ⟨rfl, hm, mov_plc0 (s := (ax, ay, vx, vy, sp)) hm, hi⟩ N hN).trans ?_
  · have e1 : decide (((i : Nat) : Int) < m) = true := decide_eq_true (by omega)
    have e : gnF cx cy sd w h pb po fl ke sw be we l m R (st20 cx cy sd w h pb po fl ke sw be we i a s) = match gnx cx cy sd w h pb po fl ke sw be we l i s with | none => finL R | some s' => gnS (strN l (i : Int)) (st20 cx cy sd w h pb po fl ke sw be we i a s) s'.1 s'.2.1 s'.2.2.1 s'.2.2.2.1 s'.2.2.2.2 := by
      unfold gnF
      show (bif decide (((i : Nat) : Int) < m) then (bif !(z5 s) then (bif l.all brmB then (bif rgtB cx cy sd w h pb po fl ke sw be we s.1 s.2.1 s.2.2.1 s.2.2.2.1 s.2.2.2.2 (strN l (i : Int)) then tkStep (slwV cx cy sd w h pb po fl ke sw be we s.1 s.2.1) (bdvV cx cy sd w h pb po fl ke sw be we s.1 s.2.1) s.1 s.2.1 s.2.2.1 s.2.2.2.1 s.2.2.2.2 (strN l (i : Int)) (gnS (strN l (i : Int)) (st20 cx cy sd w h pb po fl ke sw be we i a s)) (finL R) else none) else none) else _) else _) = _
      rw [e1, hz, hl, rgt5 cx cy sd w h pb po fl ke sw be we l i s hi hg hl hv.mov]
      exact gnx_step cx cy sd w h pb po fl ke sw be we l i s _ _
    rw [e]
    refine ⟨fun hn => by rw [hn], fun s' hn => ?_⟩
    have hm' := gnx_mov cx cy sd w h pb po fl ke sw be we l i s s' hv.mov hn
    refine ⟨?_, wr_next hv gr.we hl hm'⟩
    rw [hn]
    exact gnS_fin cx cy sd w h pb po fl ke sw be we l hl hg i (by omega) a s s' hv hm'
  · have e1 : decide (((i : Nat) : Int) < m) = true := decide_eq_true (by omega)
    unfold gnF
    show (bif decide (((i : Nat) : Int) < m) then (bif !(z5 s) then _ else some (LRes.brk 0 (st20 cx cy sd w h pb po fl ke sw be we i a s))) else _) = _
    rw [e1, hz]; rfl
  · have e1 : decide (((m.toNat : Nat) : Int) < m) = false := decide_eq_false (by omega)
    unfold gnF
    show (bif decide (((m.toNat : Nat) : Int) < m) then _ else some (LRes.brk 0 (st20 cx cy sd w h pb po fl ke sw be we m.toNat a s))) = _
    rw [e1]; rfl
  · unfold gRL
    cases runL (gnx cx cy sd w h pb po fl ke sw be we l) z5 m.toNat 0 (ax, ay, vx, vy, sp) <;> rfl
noncomputable def wnP (we : Int) (o : Option (List St5)) (cx cy sd w : Int) (pb po : List Int) (ax ay : Int) (l : List BrI) : List Int := match o with | none => [] | some L => (L.foldl (wrUp cx cy sd w we l) (0, (ax, ay), pb, po)).2.2.1
noncomputable def wnQ (we : Int) (o : Option (List St5)) (cx cy sd w : Int) (pb po : List Int) (ax ay : Int) (l : List BrI) : List Int := match o with | none => [] | some L => (L.foldl (wrUp cx cy sd w we l) (0, (ax, ay), pb, po)).2.2.2
def isS {S : Type} (o : Option S) : Bool := match o with | none => false | some _ => true
noncomputable def wnO (c : Bool) (o : Option (List St5)) (cx cy sd w h : Int) (pb po : List Int) (we ax ay : Int) (l : List BrI) : AOut := .ret (.tup [.agg [iN (selI (c && isS o) cx), iN (selI (c && isS o) cy), iN (selI (c && isS o) sd), iN (selI (c && isS o) w), iN (selI (c && isS o) h), .ro (.int .i64) (selL c (wnP we o cx cy sd w pb po ax ay l)), .ro (.int .i64) (selL c (wnQ we o cx cy sd w pb po ax ay l))], iN (rnZ c o)])
theorem gWorn_fin (cx cy sd w h : Int) (pb po : List Int) (fl ke sw be we : Int) (ax ay vx vy sp : Int) (l : List BrI) (m : Int) (hs : ∀ qSm ∈ ([.agg [.int .i64 cx, .int .i64 cy, .int .i64 sd, .int .i64 w, .int .i64 h, .ro (.int .i64) pb, .ro (.int .i64) po], .agg [.int .i64 fl, .int .i64 ke, .int .i64 sw, .int .i64 be, .int .i64 we], .agg [.int .i64 ax, .int .i64 ay, .int .i64 vx, .int .i64 vy, .int .i64 sp], .ro (.recd (.cons (.int .i64) (.cons (.int .i64) (.cons (.int .i64) .nil)))) l, .int .i64 m] : List AVal), Sm qSm) : ∃ N n, ∀ α (k : AOut → Option α), evFn real tab ((twY fsG8 spG).env real tab N n) N Tryz.f32 α [.agg [.int .i64 cx, .int .i64 cy, .int .i64 sd, .int .i64 w, .int .i64 h, .ro (.int .i64) pb, .ro (.int .i64) po], .agg [.int .i64 fl, .int .i64 ke, .int .i64 sw, .int .i64 be, .int .i64 we], .agg [.int .i64 ax, .int .i64 ay, .int .i64 vx, .int .i64 vy, .int .i64 sp], .ro (.recd (.cons (.int .i64) (.cons (.int .i64) (.cons (.int .i64) .nil)))) l, .int .i64 m] k = bif rnB cx cy sd w h pb po fl ke sw be we ax ay vx vy sp l m then k (wnO true (gRL cx cy sd w h pb po fl ke sw be we ax ay vx vy sp l m) cx cy sd w h pb po we ax ay l) else k (wnErr 2) := by
  refine ⟨m.toNat + 1, 12, fun α k => (gWorn_text (m.toNat + 1) 0 α cx cy sd w h pb po fl ke sw be we ax ay vx vy sp l m k).trans ?_⟩
  unfold rnB tckB
  cases hi : iceB cx cy sd w h pb po
  · rfl
  cases hg : graB fl ke sw be we
  · rfl
  cases hm : movB ax ay vx vy sp
  · rfl
  cases hb : brsB l
  · rfl
  cases h1 : decide (0 ≤ m)
  · rfl
  cases h2 : decide (m ≤ 6000)
  · rfl
  have hb' := hb
  unfold brsB at hb'
  rw [Bool.and_eq_true] at hb'
  simp only [Bool.and_self, Bool.not_true, cond_true, cond_false]
  refine (gnT_fin cx cy sd w h pb po fl ke sw be we ax ay vx vy sp l m hi hg hm hb'.2 ⟨of_decide_eq_true h1, of_decide_eq_true h2⟩ (m.toNat + 1) (by omega) _ _).trans ?_
  cases gRL cx cy sd w h pb po fl ke sw be we ax ay vx vy sp l m <;> rfl
noncomputable def gWornS : Fsp := fun _ args k => match args with
  | [.agg [.int .i64 cx, .int .i64 cy, .int .i64 sd, .int .i64 w, .int .i64 h, .ro (.int .i64) pb, .ro (.int .i64) po], .agg [.int .i64 fl, .int .i64 ke, .int .i64 sw, .int .i64 be, .int .i64 we], .agg [.int .i64 ax, .int .i64 ay, .int .i64 vx, .int .i64 vy, .int .i64 sp], .ro (.recd (.cons (.int .i64) (.cons (.int .i64) (.cons (.int .i64) .nil)))) l, .int .i64 m] => bif rnB cx cy sd w h pb po fl ke sw be we ax ay vx vy sp l m then k (wnO true (gRL cx cy sd w h pb po fl ke sw be we ax ay vx vy sp l m) cx cy sd w h pb po we ax ay l) else k (wnErr 2)
  | _ => none
theorem gWornS_ok : FspOk Tryz.prog 32 gWornS := tower_Y fsG8_ok spG_ok ⟨Tryz.func32, fun _ _ => by kernel_rfl⟩ (by intro α args k; unfold gWornS; split <;> simp only [cond_bind, Option.bind_some, Option.bind_none]) fun args out hSm hEq => by
  unfold gWornS at hEq
  split at hEq
  · rename_i cx cy sd w h pb po fl ke sw be we ax ay vx vy sp l m
    obtain ⟨N, n, e⟩ := gWorn_fin cx cy sd w h pb po fl ke sw be we ax ay vx vy sp l m hSm
    exact ⟨N, n, (e AOut some).trans hEq⟩
  · cases hEq
noncomputable def gWornTS : Fsp := fun _ args k => match args with
  | [.agg [.int .i64 cx, .int .i64 cy, .int .i64 sd, .int .i64 w, .int .i64 h, .ro (.int .i64) pb, .ro (.int .i64) po], .agg [.int .i64 fl, .int .i64 ke, .int .i64 sw, .int .i64 be, .int .i64 we], .agg [.int .i64 ax, .int .i64 ay, .int .i64 vx, .int .i64 vy, .int .i64 sp], .ro (.recd (.cons (.int .i64) (.cons (.int .i64) (.cons (.int .i64) .nil)))) l, .int .i64 m] => k (wnO (rnB cx cy sd w h pb po fl ke sw be we ax ay vx vy sp l m) (gRL cx cy sd w h pb po fl ke sw be we ax ay vx vy sp l m) cx cy sd w h pb po we ax ay l)
  | _ => none
theorem wn_tot (c : Bool) (o : Option (List St5)) (cx cy sd w h : Int) (pb po : List Int) (we ax ay : Int) (l : List BrI) : ∃ v v', wnO c o cx cy sd w h pb po we ax ay l = .ret v' ∧ (bif c then some (wnO true o cx cy sd w h pb po we ax ay l) else some (wnErr 2)) = some (.ret v) ∧ SimV v v' := by
  cases c
  · exact ⟨_, _, rfl, rfl, simV_tup ⟨simV_agg ⟨.refl _, .refl _, .refl _, .refl _, .refl _, simV_nils _, simV_nils _, trivial⟩, .refl _, trivial⟩⟩
  · exact ⟨_, _, rfl, rfl, .refl _⟩
theorem gWornTS_ok : FspOk Tryz.prog 32 gWornTS := fsp_sim gWornS_ok (by intro α args k; unfold gWornTS; split <;> rfl) fun args out hq => by
  unfold gWornTS at hq
  split at hq
  · rename_i cx cy sd w h pb po fl ke sw be we ax ay vx vy sp l m
    cases hq
    obtain ⟨v1, v2, e1, e2, e3⟩ := wn_tot (rnB cx cy sd w h pb po fl ke sw be we ax ay vx vy sp l m) (gRL cx cy sd w h pb po fl ke sw be we ax ay vx vy sp l m) cx cy sd w h pb po we ax ay l
    refine ⟨v1, v2, e1, ?_, e3⟩
    rw [← e2]
    rfl
  · cases hq
end Go.Proofs.YtgpljldfbhkdlaaGreat

namespace Go.Proofs.YtgpljldfbhkdlaaGreat
open Go.RowKit
noncomputable def rfadeOS : Fsp := fun _ args k => match args with
  | [.agg [.int .i64 cx, .int .i64 cy, .int .i64 sd, .int .i64 w, .int .i64 h, .ro (.int .i64) pb, .ro (.int .i64) po], .int .i64 b] => bif iceB cx cy sd w h pb po && grnB b then k (.ret (.tup [.agg [iN cx, iN cy, iN sd, iN w, iN h, .ro (.int .i64) pb, .ro (.int .i64) (chgL (fun _ => true) (fun i => wornV i b) po : List Int)], iN 0])) else none
  | _ => none
theorem rfadeOS_ok : FspOk Tryz.prog 74 rfadeOS := fsp_sim rfadeTS_ok (by intro α args k; unfold rfadeOS; split <;> simp only [cond_bind, Option.bind_some, Option.bind_none]) fun args out hq => by
  unfold rfadeOS at hq
  split at hq
  · rename_i cx cy sd w h pb po b
    have hq : (bif iceB cx cy sd w h (pb : List Int) (po : List Int) && grnB b then some (AOut.ret (.tup [.agg [iN cx, iN cy, iN sd, iN w, iN h, .ro (.int .i64) pb, .ro (.int .i64) (chgL (fun _ => true) (fun i => wornV i b) po : List Int)], iN 0])) else none) = some out := hq
    cases hc : (iceB cx cy sd w h (pb : List Int) (po : List Int) && grnB b)
    · rw [hc] at hq; cases hq
    · rw [hc] at hq
      cases hq
      refine ⟨_, _, rfl, ?_, .refl _⟩
      show some (icT (iceB cx cy sd w h (pb : List Int) (po : List Int) && grnB b) cx cy sd w h pb (chgL (fun _ => true) (fun i => wornV i b) po)) = _
      rw [hc]; rfl
  · cases hq
noncomputable def rpassOS : Fsp := ipassOS
theorem rpassOS_ok : FspOk Tryz.prog 76 rpassOS := fsp_sim rpassTS_ok (by intro α args k; unfold rpassOS ipassOS; split <;> simp only [cond_bind, Option.bind_some, Option.bind_none]) fun args out hq => by
  unfold rpassOS ipassOS at hq
  split at hq
  · rename_i cx cy sd w h pb po fl ke sw be we x y u v
    have hq : (bif pasB cx cy sd w h (pb : List Int) (po : List Int) fl ke sw be we x y u v then some (AOut.ret (.tup [.agg [iN cx, iN cy, iN sd, iN w, iN h, .ro (.int .i64) (chgL (fun i => toB cx cy sd w x y u v i) (fun i => wornV i we) pb : List Int), .ro (.int .i64) po], iN 0])) else none) = some out := hq
    cases hc : pasB cx cy sd w h (pb : List Int) (po : List Int) fl ke sw be we x y u v
    · rw [hc] at hq; cases hq
    · rw [hc] at hq
      cases hq
      refine ⟨_, _, rfl, ?_, .refl _⟩
      show some (icT (pasB cx cy sd w h (pb : List Int) (po : List Int) fl ke sw be we x y u v) cx cy sd w h (chgL (fun i => toB cx cy sd w x y u v i) (fun i => wornV i we) pb) po) = _
      rw [hc]; rfl
  · cases hq
noncomputable def rsweepOS : Fsp := isweepOS
theorem rsweepOS_ok : FspOk Tryz.prog 77 rsweepOS := fsp_sim rsweepTS_ok (by intro α args k; unfold rsweepOS isweepOS; split <;> simp only [cond_bind, Option.bind_some, Option.bind_none]) fun args out hq => by
  unfold rsweepOS isweepOS at hq
  split at hq
  · rename_i cx cy sd w h pb po x y u v b
    have hq : (bif twB cx cy sd w h (pb : List Int) (po : List Int) x y u v && grnB b then some (AOut.ret (.tup [.agg [iN cx, iN cy, iN sd, iN w, iN h, .ro (.int .i64) pb, .ro (.int .i64) (chgL (fun i => toB cx cy sd w x y u v i) (fun i => moreV i b) po : List Int)], iN 0])) else none) = some out := hq
    cases hc : (twB cx cy sd w h (pb : List Int) (po : List Int) x y u v && grnB b)
    · rw [hc] at hq; cases hq
    · rw [hc] at hq
      cases hq
      refine ⟨_, _, rfl, ?_, .refl _⟩
      show some (icT (twB cx cy sd w h (pb : List Int) (po : List Int) x y u v && grnB b) cx cy sd w h pb (chgL (fun i => toB cx cy sd w x y u v i) (fun i => moreV i b) po)) = _
      rw [hc]; rfl
  · cases hq
noncomputable def fnRe : FuncId → Option Fsp := fun g =>
  if g = 74 then some rfadeOS else
  if g = 76 then some rpassOS else
  if g = 77 then some rsweepOS else
  fnRd g
theorem fnRe_ok : FsOk fnRe :=
  fs_cons rfadeOS_ok <|
  fs_cons rpassOS_ok <|
  fs_cons rsweepOS_ok <|
  fnRd_ok
abbrev S8r := Int × Int × Int × Int × Int × Int × List Int × List Int × Unit
noncomputable def rwB {α : Type} (fl ke sw be we : Int) (l : List BrI) (M : List MvI) (x : S8r) : Option (LRes S8r α) :=
  if 0 ≤ (IntKind.i64.wrap (x.1 - 1)) ∧ (IntKind.i64.wrap (x.1 - 1)) < (M.length : Int) then if 0 ≤ x.1 ∧ x.1 < (M.length : Int) then
    bif pasB x.2.1 x.2.2.1 x.2.2.2.1 x.2.2.2.2.1 x.2.2.2.2.2.1 x.2.2.2.2.2.2.1 x.2.2.2.2.2.2.2.1 fl ke sw be we (M.getD (IntKind.i64.wrap (x.1 - 1)).toNat mvD).1.1 (M.getD (IntKind.i64.wrap (x.1 - 1)).toNat mvD).1.2.1 (M.getD x.1.toNat mvD).1.1 (M.getD x.1.toNat mvD).1.2.1 then
      bif decide (strN l (IntKind.i64.wrap (x.1 - 1)) > 0) then
        if 0 ≤ (IntKind.i64.wrap (x.1 - 1)) ∧ (IntKind.i64.wrap (x.1 - 1)) < (M.length : Int) then if 0 ≤ x.1 ∧ x.1 < (M.length : Int) then
          bif twB x.2.1 x.2.2.1 x.2.2.2.1 x.2.2.2.2.1 x.2.2.2.2.2.1 (chgL (fun i => toB x.2.1 x.2.2.1 x.2.2.2.1 x.2.2.2.2.1 (M.getD (IntKind.i64.wrap (x.1 - 1)).toNat mvD).1.1 (M.getD (IntKind.i64.wrap (x.1 - 1)).toNat mvD).1.2.1 (M.getD x.1.toNat mvD).1.1 (M.getD x.1.toNat mvD).1.2.1 i) (fun i => wornV i we) x.2.2.2.2.2.2.1) x.2.2.2.2.2.2.2.1 (M.getD (IntKind.i64.wrap (x.1 - 1)).toNat mvD).1.1 (M.getD (IntKind.i64.wrap (x.1 - 1)).toNat mvD).1.2.1 (M.getD x.1.toNat mvD).1.1 (M.getD x.1.toNat mvD).1.2.1 && grnB (strN l (IntKind.i64.wrap (x.1 - 1))) then
            some (.cont (IntKind.i64.wrap (x.1 + 1), x.2.1, x.2.2.1, x.2.2.2.1, x.2.2.2.2.1, x.2.2.2.2.2.1, chgL (fun i => toB x.2.1 x.2.2.1 x.2.2.2.1 x.2.2.2.2.1 (M.getD (IntKind.i64.wrap (x.1 - 1)).toNat mvD).1.1 (M.getD (IntKind.i64.wrap (x.1 - 1)).toNat mvD).1.2.1 (M.getD x.1.toNat mvD).1.1 (M.getD x.1.toNat mvD).1.2.1 i) (fun i => wornV i we) x.2.2.2.2.2.2.1, chgL (fun i => toB x.2.1 x.2.2.1 x.2.2.2.1 x.2.2.2.2.1 (M.getD (IntKind.i64.wrap (x.1 - 1)).toNat mvD).1.1 (M.getD (IntKind.i64.wrap (x.1 - 1)).toNat mvD).1.2.1 (M.getD x.1.toNat mvD).1.1 (M.getD x.1.toNat mvD).1.2.1 i) (fun i => moreV i (strN l (IntKind.i64.wrap (x.1 - 1)))) x.2.2.2.2.2.2.2.1, ()))
          else none
        else none else none
      else some (.cont (IntKind.i64.wrap (x.1 + 1), x.2.1, x.2.2.1, x.2.2.2.1, x.2.2.2.2.1, x.2.2.2.2.2.1, chgL (fun i => toB x.2.1 x.2.2.1 x.2.2.2.1 x.2.2.2.2.1 (M.getD (IntKind.i64.wrap (x.1 - 1)).toNat mvD).1.1 (M.getD (IntKind.i64.wrap (x.1 - 1)).toNat mvD).1.2.1 (M.getD x.1.toNat mvD).1.1 (M.getD x.1.toNat mvD).1.2.1 i) (fun i => wornV i we) x.2.2.2.2.2.2.1, x.2.2.2.2.2.2.2.1, ()))
    else none
  else none else none
noncomputable def rwF {α : Type} (fl ke sw be we : Int) (l : List BrI) (M : List MvI) (x : S8r) : Option (LRes S8r α) :=
  bif decide (x.1 < (M.length : Int)) then
    if 0 ≤ x.1 ∧ x.1 < (M.length : Int) then
      bif (M.getD x.1.toNat mvD).2.1.1 == 0 then bif (M.getD x.1.toNat mvD).2.1.2.1 == 0 then some (.brk 0 (x.1, x.2.1, x.2.2.1, x.2.2.2.1, x.2.2.2.2.1, x.2.2.2.2.2.1, x.2.2.2.2.2.2.1, x.2.2.2.2.2.2.2.1, ())) else rwB fl ke sw be we l M x
      else rwB fl ke sw be we l M x
    else none
  else some (.brk 0 (x.1, x.2.1, x.2.2.1, x.2.2.2.1, x.2.2.2.2.1, x.2.2.2.2.2.1, x.2.2.2.2.2.2.1, x.2.2.2.2.2.2.2.1, ()))
noncomputable def rwT {α : Type} (N : Nat) (cx cy sd w h : Int) (pb po : List Int) (fl ke sw be we : Int) (l : List BrI) (M : List MvI) (K : Int → Int → Int → Int → Int → List Int → List Int → Option α) : Option α :=
  afterL (iterL N (rwF fl ke sw be we l M) (1, cx, cy, sd, w, h, pb, chgL (fun _ => true) (fun i => wornV i 0) po, ())) fun id y => if id = 0 then K y.2.1 y.2.2.1 y.2.2.2.1 y.2.2.2.2.1 y.2.2.2.2.2.1 y.2.2.2.2.2.2.1 y.2.2.2.2.2.2.2.1 else none
set_option maxRecDepth 100000 in
theorem rWorn_text (N n0 : Nat) (α : Type) (cx cy sd w h : Int) (pb po : List Int) (fl ke sw be we : Int) (ax ay vx vy sp : Int) (l : List BrI) (m : Int) (k : AOut → Option α) : evFn real tab ((twY fnRe spL).env real tab N (n0 + 8)) N Tryz.f33 α [.agg [.int .i64 cx, .int .i64 cy, .int .i64 sd, .int .i64 w, .int .i64 h, .ro (.int .i64) pb, .ro (.int .i64) po], .agg [.int .i64 fl, .int .i64 ke, .int .i64 sw, .int .i64 be, .int .i64 we], .agg [.int .i64 ax, .int .i64 ay, .int .i64 vx, .int .i64 vy, .int .i64 sp], .ro (.recd (.cons (.int .i64) (.cons (.int .i64) (.cons (.int .i64) .nil)))) l, .int .i64 m] k =
 bif iceB cx cy sd w h pb po then bif graB fl ke sw be we then bif movB ax ay vx vy sp then bif !brsB l then k (wnErr 2) else bif decide (0 ≤ m) then bif !decide (m ≤ 6000) then k
 (wnErr 2) else bif rnB cx cy sd w h pb po fl ke sw be we ax ay vx vy sp l m then bif rnE (gRL cx cy sd w h pb po fl ke sw be we ax ay vx vy sp l m) != 0 then k (wnErr (rnE (gRL cx
 cy sd w h pb po fl ke sw be we ax ay vx vy sp l m))) else bif iceB cx cy sd w h pb po && grnB 0 then rwT N cx cy sd w h pb po fl ke sw be we l (allM (gRL cx cy sd w h pb po fl ke sw
 be we ax ay vx vy sp l m) (ax, ay, vx, vy, sp)) fun a b c d e p q => k (.ret (.tup [.agg [iN a, iN b, iN c, iN d, iN e, .ro (.int .i64) p, .ro (.int .i64) q], iN 0])) else none else
 none else k (wnErr 2) else k (wnErr 2) else k (wnErr 2) else k (wnErr 2) := by kernel_rfl
/-! The loop, plain. -/
theorem chg_same {f : Int → Int} {l : List Int} (h : l.all grnB = true) (hf : ∀ z, grnB z = true → f z = z) : chgL (fun _ => true) f l = l := by
  refine List.ext_getElem (chg_len ..) fun i h1 h2 => ?_
  have := chg_get (fun _ => true) f l h2
  rw [List.getD_eq_getElem?_getD, List.getElem?_eq_getElem h1, List.getD_eq_getElem?_getD, List.getElem?_eq_getElem h2] at this
  simp only [Option.getD_some, cond_true] at this
  rw [this]
  exact hf _ (List.all_eq_true.1 h _ (List.getElem_mem h2))
theorem worn_none {z : Int} (hz : grnB z = true) : wornV z 0 = z := by
  have h := in_dec.1 hz
  unfold wornV
  rw [i64_in (z - 0) (by omega)]
  split <;> omega
theorem getD_prev {S B : Type} (f : S → B) (d : B) (R : List S) : ∀ (L : List S) (s : S), ((s :: (L ++ R)).map f).getD L.length d = f (lastD s L)
  | [], _ => rfl
  | x :: L, s => getD_prev f d R L x
theorem getD_next {S B : Type} (f : S → B) (d : B) (s' : S) (R : List S) : ∀ (L : List S) (s : S), ((s :: (L ++ s' :: R)).map f).getD (L.length + 1) d = f s'
  | [], _ => rfl
  | x :: L, s => getD_next f d s' R L x
def Mid : List St5 → Prop
  | [] => True
  | [_] => True
  | s :: r => z5 s = false ∧ Mid r
theorem mid_cons {s : St5} {r : List St5} (h : Mid (s :: r)) : Mid r ∧ (z5 s = true → r = []) := by
  cases r with
  | nil => exact ⟨trivial, fun _ => rfl⟩
  | cons a r => exact ⟨h.2, fun hz => by rw [h.1] at hz; cases hz⟩
theorem run_mid (cx cy sd w h : Int) (pb po : List Int) (fl ke sw be we : Int) (l : List BrI) : ∀ (n i : Nat) (s : St5) L, mov5 s = true → runL (gnx cx cy sd w h pb po fl ke sw be we l) z5 n i s = some L → Mid L ∧ ∀ u ∈ L, mov5 u = true
  | 0, i, s, L, hs, hr => by cases hr; exact ⟨trivial, fun u hu => by cases hu⟩
  | n + 1, i, s, L, hs, hr => by
    unfold runL at hr
    cases hz : z5 s
    · rw [hz, cond_false] at hr
      cases hn : gnx cx cy sd w h pb po fl ke sw be we l i s with
      | none => rw [hn] at hr; cases hr
      | some s' =>
        rw [hn] at hr
        simp only at hr
        cases hr' : runL (gnx cx cy sd w h pb po fl ke sw be we l) z5 n (i + 1) s' with
        | none => rw [hr'] at hr; cases hr
        | some L' =>
          rw [hr'] at hr
          cases hr
          have hm := gnx_mov _ _ _ _ _ _ _ _ _ _ _ _ l i s s' hs hn
          obtain ⟨a, b⟩ := run_mid cx cy sd w h pb po fl ke sw be we l n (i + 1) s' L' hm hr'
          refine ⟨?_, fun u hu => by rcases List.mem_cons.1 hu with rfl | hu; exact hm; exact b u hu⟩
          cases L' with
          | nil => trivial
          | cons u L' =>
            refine ⟨?_, a⟩
            cases hz' : z5 s'
            · rfl
            · cases n with
              | zero => cases hr'
              | succ n =>
                unfold runL at hr'
                rw [hz'] at hr'
                cases hr'
    · rw [hz] at hr; cases hr; exact ⟨trivial, fun u hu => by cases hu⟩
theorem rw_go {α : Type} (cx cy sd w h : Int) (fl ke sw be we : Int) (l : List BrI) (hl : l.all brmB = true) (hg : graB fl ke sw be we = true) (K : Int → Int → Int → Int → Int → List Int → List Int → Option α) (s0 : St5) : ∀ (L2 L1 : List St5) (a : WrA), L1.length + L2.length ≤ 6000 → Mid L2 → (∀ u ∈ L2, mov5 u = true) → WrI cx cy sd w h L1.length a (lastD s0 L1) → a.2.1 = ((lastD s0 L1).1, (lastD s0 L1).2.1) → ∀ N, L2.length < N →
    (afterL (iterL N (rwF fl ke sw be we l ((s0 :: (L1 ++ L2)).map toMv)) ((L1.length : Int) + 1, cx, cy, sd, w, h, a.2.2.1, a.2.2.2, ())) fun id y => if id = 0 then K y.2.1 y.2.2.1 y.2.2.2.1 y.2.2.2.2.1 y.2.2.2.2.2.1 y.2.2.2.2.2.2.1 y.2.2.2.2.2.2.2.1 else none) = K cx cy sd w h (L2.foldl (wrUp cx cy sd w we l) a).2.2.1 (L2.foldl (wrUp cx cy sd w we l) a).2.2.2 := by
  intro L2
  induction L2 with
  | nil =>
    intro L1 a hlen _ _ v hat N hN
    obtain ⟨N', rfl⟩ : ∃ N', N = N' + 1 := ⟨N - 1, by omega⟩
    unfold iterL
    have hM : ((((s0 :: (L1 ++ [])).map toMv).length : Nat) : Int) = (L1.length : Int) + 1 := by simp
    unfold rwF
    rw [hM, decide_eq_false (show ¬ (L1.length : Int) + 1 < (L1.length : Int) + 1 by omega)]
    rfl
  | cons s' r ih =>
    intro L1 a hlen hmid hmv v hat N hN
    obtain ⟨N', rfl⟩ : ∃ N', N = N' + 1 := ⟨N - 1, by omega⟩
    rw [List.length_cons] at hlen hN
    have hM : ((((s0 :: (L1 ++ s' :: r)).map toMv).length : Nat) : Int) = (L1.length : Int) + 1 + ((r.length : Int) + 1) := by simp; omega
    have hJ : IntKind.i64.wrap ((L1.length : Int) + 1 - 1) = (L1.length : Int) := by rw [i64_in _ (by omega)]; omega
    have e2 : IntKind.i64.wrap ((L1.length : Int) + 1 + 1) = ((L1 ++ [s']).length : Int) + 1 := by rw [i64_in _ (by omega)]; simp
    have hp : ((s0 :: (L1 ++ s' :: r)).map toMv).getD L1.length mvD = toMv (lastD s0 L1) := getD_prev toMv mvD (s' :: r) L1 s0
    have hq : ((s0 :: (L1 ++ s' :: r)).map toMv).getD (L1.length + 1) mvD = toMv s' := getD_next toMv mvD s' r L1 s0
    have ht1 : ((L1.length : Int) + 1).toNat = L1.length + 1 := by omega
    have ht2 : ((L1.length : Int)).toNat = L1.length := by omega
    have hm' := hmv s' (List.mem_cons_self ..)
    obtain ⟨hmid', hlast⟩ := mid_cons hmid
    have gr := gra_is _ _ _ _ _ hg
    have vn := wr_next v gr.we hl hm'
    have hn := str_in hl (a.1 : Int)
    have gi := ice_is _ _ _ _ _ _ _ v.ice
    have hps : plcB s'.1 s'.2.1 = true := mov_plc0 hm'
    have hat' := v.at'
    have hB : z5 s' = false → rwB (α := α) fl ke sw be we l ((s0 :: (L1 ++ s' :: r)).map toMv) ((L1.length : Int) + 1, cx, cy, sd, w, h, a.2.2.1, a.2.2.2, ()) = some (.cont (((L1 ++ [s']).length : Int) + 1, cx, cy, sd, w, h, (wrUp cx cy sd w we l a s').2.2.1, (wrUp cx cy sd w we l a s').2.2.2, ())) := fun hz => by
      unfold rwB
      simp only [hJ, ht1, ht2, hp, hq, hM, e2]
      rw [if_pos (by omega), if_pos (by omega), if_pos (by omega), if_pos (by omega)]
      rw [hat] at hat'
      have hP : pasB cx cy sd w h a.2.2.1 a.2.2.2 fl ke sw be we (toMv (lastD s0 L1)).1.1 (toMv (lastD s0 L1)).1.2.1 (toMv s').1.1 (toMv s').1.2.1 = true := by
        show pasB cx cy sd w h a.2.2.1 a.2.2.2 fl ke sw be we (lastD s0 L1).1 (lastD s0 L1).2.1 s'.1 s'.2.1 = true
        unfold pasB; rw [v.ice, hg, hps, hat']; rfl
      have hT : (twB cx cy sd w h (chgL (fun i => toB cx cy sd w (toMv (lastD s0 L1)).1.1 (toMv (lastD s0 L1)).1.2.1 (toMv s').1.1 (toMv s').1.2.1 i) (fun i => wornV i we) a.2.2.1) a.2.2.2 (toMv (lastD s0 L1)).1.1 (toMv (lastD s0 L1)).1.2.1 (toMv s').1.1 (toMv s').1.2.1 && grnB (strN l (L1.length : Int))) = true := by
        unfold twB
        rw [ice_swap v.ice (chg_len ..) rfl (chg_grn gi.pg fun z hz => worn_grn gr.we hz) gi.og, show plcB (toMv (lastD s0 L1)).1.1 (toMv (lastD s0 L1)).1.2.1 = true from hat', show plcB (toMv s').1.1 (toMv s').1.2.1 = true from hps, show grnB (strN l (L1.length : Int)) = true from in_dec.2 (by rw [← v.i]; exact hn)]; rfl
      rw [hP, hT]
      unfold wrUp
      rw [hz, v.i, hat]
      simp only [cond_true, cond_false]
      cases decide (strN l (L1.length : Int) > 0) <;> rfl
    unfold iterL
    have hF : rwF (α := α) fl ke sw be we l ((s0 :: (L1 ++ s' :: r)).map toMv) ((L1.length : Int) + 1, cx, cy, sd, w, h, a.2.2.1, a.2.2.2, ()) = bif z5 s' then some (.brk 0 ((L1.length : Int) + 1, cx, cy, sd, w, h, a.2.2.1, a.2.2.2, ())) else rwB fl ke sw be we l ((s0 :: (L1 ++ s' :: r)).map toMv) ((L1.length : Int) + 1, cx, cy, sd, w, h, a.2.2.1, a.2.2.2, ()) := by
      unfold rwF
      simp only [ht1, hq, hM]
      rw [decide_eq_true (show (L1.length : Int) + 1 < (L1.length : Int) + 1 + ((r.length : Int) + 1) by omega), if_pos (by omega), z5_two]
      show (bif s'.2.2.1 == 0 then bif s'.2.2.2.1 == 0 then _ else _ else _) = _
      cases s'.2.2.1 == 0
      · rfl
      · cases s'.2.2.2.1 == 0 <;> rfl
    rw [hF]
    cases hz : z5 s'
    · rw [cond_false, hB hz]
      have hap : L1 ++ s' :: r = (L1 ++ [s']) ++ r := by simp
      rw [hap]
      have hla : lastD s0 (L1 ++ [s']) = s' := by unfold lastD; rw [List.foldl_append]; rfl
      have := ih (L1 ++ [s']) (wrUp cx cy sd w we l a s') (by simp; omega) hmid' (fun u hu => hmv u (List.mem_cons_of_mem _ hu)) (by rw [hla]; simpa using vn) (by rw [hla]; unfold wrUp; rw [hz]; rfl) N' (by omega)
      simp only
      exact this
    · rw [cond_true]
      have hr0 := hlast hz
      subst hr0
      simp only [List.foldl_cons, List.foldl_nil]
      unfold wrUp
      rw [hz]
      rfl
theorem rwT_fin {α : Type} (cx cy sd w h : Int) (pb po : List Int) (fl ke sw be we : Int) (ax ay vx vy sp : Int) (l : List BrI) (hi : iceB cx cy sd w h pb po = true) (hg : graB fl ke sw be we = true) (hm : movB ax ay vx vy sp = true) (hl : l.all brmB = true) (L : List St5) (hL : L.length ≤ 6000) (hmid : Mid L) (hmv : ∀ u ∈ L, mov5 u = true) (K : Int → Int → Int → Int → Int → List Int → List Int → Option α) : rwT 6002 cx cy sd w h pb po fl ke sw be we l (allM (some L) (ax, ay, vx, vy, sp)) K = K cx cy sd w h (L.foldl (wrUp cx cy sd w we l) (0, (ax, ay), pb, po)).2.2.1 (L.foldl (wrUp cx cy sd w we l) (0, (ax, ay), pb, po)).2.2.2 := by
  have gi := ice_is _ _ _ _ _ _ _ hi
  unfold rwT
  rw [chg_same gi.og fun z hz => worn_none hz]
  exact rw_go cx cy sd w h fl ke sw be we l hl hg K (ax, ay, vx, vy, sp) L [] (0, (ax, ay), pb, po) (by simpa using hL) hmid hmv ⟨rfl, hm, mov_plc0 (s := (ax, ay, vx, vy, sp)) hm, hi⟩ rfl 6002 (by omega)
theorem rWorn_fin (cx cy sd w h : Int) (pb po : List Int) (fl ke sw be we : Int) (ax ay vx vy sp : Int) (l : List BrI) (m : Int) (hs : ∀ qSm ∈ ([.agg [.int .i64 cx, .int .i64 cy, .int .i64 sd, .int .i64 w, .int .i64 h, .ro (.int .i64) pb, .ro (.int .i64) po], .agg [.int .i64 fl, .int .i64 ke, .int .i64 sw, .int .i64 be, .int .i64 we], .agg [.int .i64 ax, .int .i64 ay, .int .i64 vx, .int .i64 vy, .int .i64 sp], .ro (.recd (.cons (.int .i64) (.cons (.int .i64) (.cons (.int .i64) .nil)))) l, .int .i64 m] : List AVal), Sm qSm) : ∃ N n, ∀ α (k : AOut → Option α), evFn real tab ((twY fnRe spL).env real tab N n) N Tryz.f33 α [.agg [.int .i64 cx, .int .i64 cy, .int .i64 sd, .int .i64 w, .int .i64 h, .ro (.int .i64) pb, .ro (.int .i64) po], .agg [.int .i64 fl, .int .i64 ke, .int .i64 sw, .int .i64 be, .int .i64 we], .agg [.int .i64 ax, .int .i64 ay, .int .i64 vx, .int .i64 vy, .int .i64 sp], .ro (.recd (.cons (.int .i64) (.cons (.int .i64) (.cons (.int .i64) .nil)))) l, .int .i64 m] k = bif rnB cx cy sd w h pb po fl ke sw be we ax ay vx vy sp l m && isS (gRL cx cy sd w h pb po fl ke sw be we ax ay vx vy sp l m) then k (wnO true (gRL cx cy sd w h pb po fl ke sw be we ax ay vx vy sp l m) cx cy sd w h pb po we ax ay l) else k (wnErr (rnZ (rnB cx cy sd w h pb po fl ke sw be we ax ay vx vy sp l m) (gRL cx cy sd w h pb po fl ke sw be we ax ay vx vy sp l m))) := by
  refine ⟨6002, 8, fun α k => (rWorn_text 6002 0 α cx cy sd w h pb po fl ke sw be we ax ay vx vy sp l m k).trans ?_⟩
  unfold rnB tckB
  cases hi : iceB cx cy sd w h pb po
  · rfl
  cases hg : graB fl ke sw be we
  · rfl
  cases hm : movB ax ay vx vy sp
  · rfl
  cases hb : brsB l
  · rfl
  cases h1 : decide (0 ≤ m)
  · rfl
  cases h2 : decide (m ≤ 6000)
  · rfl
  have hb' := hb
  unfold brsB at hb'
  rw [Bool.and_eq_true] at hb'
  cases hO : gRL cx cy sd w h pb po fl ke sw be we ax ay vx vy sp l m with
  | none => rfl
  | some L =>
    have hlen := gRL_len cx cy sd w h pb po fl ke sw be we ax ay vx vy sp l (m := m) ⟨of_decide_eq_true h1, of_decide_eq_true h2⟩ L hO
    obtain ⟨q1, q2⟩ := run_mid cx cy sd w h pb po fl ke sw be we l m.toNat 0 (ax, ay, vx, vy, sp) L hm hO
    simp only [Bool.and_self, Bool.not_true, cond_true, cond_false, show (rnE (some L) != 0) = false from rfl, show grnB 0 = true from rfl, isS]
    exact rwT_fin cx cy sd w h pb po fl ke sw be we ax ay vx vy sp l hi hg hm hb'.2 L hlen q1 q2 _
noncomputable def rWornS : Fsp := fun _ args k => match args with
  | [.agg [.int .i64 cx, .int .i64 cy, .int .i64 sd, .int .i64 w, .int .i64 h, .ro (.int .i64) pb, .ro (.int .i64) po], .agg [.int .i64 fl, .int .i64 ke, .int .i64 sw, .int .i64 be, .int .i64 we], .agg [.int .i64 ax, .int .i64 ay, .int .i64 vx, .int .i64 vy, .int .i64 sp], .ro (.recd (.cons (.int .i64) (.cons (.int .i64) (.cons (.int .i64) .nil)))) l, .int .i64 m] => bif rnB cx cy sd w h pb po fl ke sw be we ax ay vx vy sp l m && isS (gRL cx cy sd w h pb po fl ke sw be we ax ay vx vy sp l m) then k (wnO true (gRL cx cy sd w h pb po fl ke sw be we ax ay vx vy sp l m) cx cy sd w h pb po we ax ay l) else k (wnErr (rnZ (rnB cx cy sd w h pb po fl ke sw be we ax ay vx vy sp l m) (gRL cx cy sd w h pb po fl ke sw be we ax ay vx vy sp l m)))
  | _ => none
theorem rWornS_ok : FspOk Tryz.prog 33 rWornS := tower_Y fnRe_ok spL_ok ⟨Tryz.func33, fun _ _ => by kernel_rfl⟩ (by intro α args k; unfold rWornS; split <;> simp only [cond_bind, Option.bind_some, Option.bind_none]) fun args out hSm hEq => by
  unfold rWornS at hEq
  split at hEq
  · rename_i cx cy sd w h pb po fl ke sw be we ax ay vx vy sp l m
    obtain ⟨N, n, e⟩ := rWorn_fin cx cy sd w h pb po fl ke sw be we ax ay vx vy sp l m hSm
    exact ⟨N, n, (e AOut some).trans hEq⟩
  · cases hEq
noncomputable def rWornTS : Fsp := fun _ args k => match args with
  | [.agg [.int .i64 cx, .int .i64 cy, .int .i64 sd, .int .i64 w, .int .i64 h, .ro (.int .i64) pb, .ro (.int .i64) po], .agg [.int .i64 fl, .int .i64 ke, .int .i64 sw, .int .i64 be, .int .i64 we], .agg [.int .i64 ax, .int .i64 ay, .int .i64 vx, .int .i64 vy, .int .i64 sp], .ro (.recd (.cons (.int .i64) (.cons (.int .i64) (.cons (.int .i64) .nil)))) l, .int .i64 m] => k (wnO (rnB cx cy sd w h pb po fl ke sw be we ax ay vx vy sp l m) (gRL cx cy sd w h pb po fl ke sw be we ax ay vx vy sp l m) cx cy sd w h pb po we ax ay l)
  | _ => none
theorem wr_tot (c : Bool) (o : Option (List St5)) (cx cy sd w h : Int) (pb po : List Int) (we ax ay : Int) (l : List BrI) : ∃ v v', wnO c o cx cy sd w h pb po we ax ay l = .ret v' ∧ (bif c && isS o then some (wnO true o cx cy sd w h pb po we ax ay l) else some (wnErr (rnZ c o))) = some (.ret v) ∧ SimV v v' := by
  cases c
  · exact ⟨_, _, rfl, rfl, simV_tup ⟨simV_agg ⟨.refl _, .refl _, .refl _, .refl _, .refl _, simV_nils _, simV_nils _, trivial⟩, .refl _, trivial⟩⟩
  · cases o with
    | none => exact ⟨_, _, rfl, rfl, simV_tup ⟨simV_agg ⟨.refl _, .refl _, .refl _, .refl _, .refl _, simV_nils _, simV_nils _, trivial⟩, .refl _, trivial⟩⟩
    | some L => exact ⟨_, _, rfl, rfl, .refl _⟩
theorem rWornTS_ok : FspOk Tryz.prog 33 rWornTS := fsp_sim rWornS_ok (by intro α args k; unfold rWornTS; split <;> rfl) fun args out hq => by
  unfold rWornTS at hq
  split at hq
  · rename_i cx cy sd w h pb po fl ke sw be we ax ay vx vy sp l m
    cases hq
    obtain ⟨v1, v2, e1, e2, e3⟩ := wr_tot (rnB cx cy sd w h pb po fl ke sw be we ax ay vx vy sp l m) (gRL cx cy sd w h pb po fl ke sw be we ax ay vx vy sp l m) cx cy sd w h pb po we ax ay l
    refine ⟨v1, v2, e1, ?_, e3⟩
    rw [← e2]
    rfl
  · cases hq
end Go.Proofs.YtgpljldfbhkdlaaGreat

namespace Go.Proofs.YtgpljldfbhkdlaaGreat
open Go.RowKit
/-! Roots, open to evaluation. -/
def rtUpC (a how : Int) : Bool := if how = 2 then !(rtC a * rtC a == a) else if how = 3 then decide ((2 * rtC a + 1) * (2 * rtC a + 1) ≤ 4 * a) else false
def rtNC (a how : Int) : Int := rtC a + (bif rtUpC a how then 1 else 0)
def rootVC (a how : Int) : Int := bif rootB a how then (bif ngB a then 0 else fxV false (rtNC (a * 65536) how)) else 0
def rootEC (a how : Int) : Int := bif rootB a how then (bif ngB a then 11 else fxE (rtNC (a * 65536) how)) else 2
def frootCS : Fsp := fun _ args k => match args with
  | [.int .i64 x, .int .i64 how] => k (i2 (rootVC x how) (rootEC x how))
  | _ => none
abbrev pondI : AVal := .agg [iN 0, iN 0, iN 10, iN 2, iN 3, .ro (.int .i64) ([100, 200, 300, 400, 500, 600] : List Int), .ro (.int .i64) ([0, 0, 0, 0, 0, 500] : List Int)]
abbrev pondG : AVal := .agg [iN 1000, iN 500, iN 200, iN 100, iN 150]
noncomputable def pondS : Fsp := fun _ args k => match args with
  | [] => k (.ret (.tup [pondI, pondG]))
  | _ => none
noncomputable def fsIa : FuncId → Option Fsp := fun g =>
  fsIt g
theorem fsIa_ok : FsOk fsIa :=
  fsIt_ok
noncomputable def ialiveS : Fsp := fun _ args k => match args with
  | [] => k (b1 true)
  | _ => none
noncomputable def fsIb : FuncId → Option Fsp := fun g =>
  fsIt g
theorem fsIb_ok : FsOk fsIb :=
  fsIt_ok
set_option maxRecDepth 100000 in
theorem igreat_text (N n0 : Nat) (α : Type) (cx cy sd w h : Int) (pb po : List Int) (m : Int) (k : AOut → Option α) : evFn real tab ((twY fsIb spL).env real tab N (n0 + 8)) N Tryz.f15 α [.agg [.int .i64 cx, .int .i64 cy, .int .i64 sd, .int .i64 w, .int .i64 h, .ro (.int .i64) pb, .ro (.int .i64) po], .int .i64 m] k =
 bif decide ((↑pb.length : Int) > m) then k (AOut.ret (AVal.bool true)) else k (AOut.ret (AVal.bool (decide ((↑po.length : Int) > m)))) := by kernel_rfl
end Go.Proofs.YtgpljldfbhkdlaaGreat

namespace Go.Proofs.YtgpljldfbhkdlaaGreat
open Go.RowKit
/-! Lengths and units, open to evaluation. -/
def lenVG (x y how : Int) : Int := bif lenB x y how then fxV false (rtNC (sq2 x y) how) else 0
def lenEG (x y how : Int) : Int := bif lenB x y how then fxE (rtNC (sq2 x y) how) else 2
def flenG : Fsp := fun _ args k => match args with
  | [.agg [.int .i64 x, .int .i64 y], .int .i64 how] => k (i2 (lenVG x y how) (lenEG x y how))
  | _ => none
theorem flenG_ok : FspOk Tryz.prog 19 flenG := by
  have e : flenG = flenS := by
    unfold flenG flenS lenVG lenEG rtNC rtUpC lenV lenE rtN rtUp
    rw [rt_C]
    rfl
  rw [e]; exact flenS_ok
def uniVG (x y c : Int) : Int := bif uniB x y then (bif sq2 x y == 0 then 0 else sg (ngB c) (shrC (ab c) (sq2 x y))) else 0
def funiG : Fsp := fun _ args k => match args with
  | [.agg [.int .i64 x, .int .i64 y]] => k (s2 (uniVG x y x) (uniVG x y y) (uniE x y))
  | _ => none
theorem funiG_ok : FspOk Tryz.prog 92 funiG := by
  have h : ∀ x y c, uniV x y c = uniVG x y c := fun x y c => by unfold uniV uniVG; rw [shr_C]
  have e : funiG = uniS := by
    unfold funiG uniS
    simp only [h]
    rfl
  rw [e]; exact uniS_ok
noncomputable def fsGn : FuncId → Option Fsp := fun g =>
  if g = 19 then some flenG else
  if g = 92 then some funiG else
  if g = 91 then some gmusSS else
  if g = 87 then some gmusFS else
  fsI11 g
theorem fsGn_ok : FsOk fsGn :=
  fs_cons flenG_ok <|
  fs_cons funiG_ok <|
  fs_cons gmusSS_ok <|
  fs_cons gmusFS_ok <|
  fsI11_ok
noncomputable def evY (N n : Nat) (fn : Func) : Fsp := evFn real tab ((twY fsGn spG).env real tab N n) N fn
theorem evY_ok {f : FuncId} {fn : Func} (hf : FnOk Tryz.prog f fn) (N n : Nat) : FspOk Tryz.prog f (evY N n fn) := fn_ok mixedT tabOk (tower_ok mixedT tabOk (twY_ok fsGn_ok spG_ok) N n) N hf.get hf.enter
theorem gbare_text (α : Type) (k : AOut → Option α) : evFn real tab ((twY fsGn spG).env real tab 8 8) 8 Tryz.f35 α [] k = k (.ret (.agg [iN 0, iN 0, iN 6553600000, iN 1, iN 1, .ro (.int .i64) ([0] : List Int), .ro (.int .i64) ([0] : List Int), iN 1000, iN 1000, iN 0, iN 500, iN 10])) := by kernel_rfl
theorem gbare_fin  (hs : ∀ qSm ∈ ([] : List AVal), Sm qSm) : ∃ N n, ∀ α (k : AOut → Option α), evFn real tab ((twY fsGn spG).env real tab N n) N Tryz.f35 α [] k = k (.ret (.agg [iN 0, iN 0, iN 6553600000, iN 1, iN 1, .ro (.int .i64) ([0] : List Int), .ro (.int .i64) ([0] : List Int), iN 1000, iN 1000, iN 0, iN 500, iN 10])) := by
  exact ⟨8, 8, fun α k => gbare_text α k⟩
noncomputable def gbareS : Fsp := fun _ args k => match args with
  | [] => k (.ret (.agg [iN 0, iN 0, iN 6553600000, iN 1, iN 1, .ro (.int .i64) ([0] : List Int), .ro (.int .i64) ([0] : List Int), iN 1000, iN 1000, iN 0, iN 500, iN 10]))
  | _ => none
theorem gbareS_ok : FspOk Tryz.prog 35 gbareS := tower_Y fsGn_ok spG_ok ⟨Tryz.func35, fun _ _ => by kernel_rfl⟩ (by intro α args k; unfold gbareS; split <;> rfl) fun args out hSm hEq => by
  unfold gbareS at hEq
  split at hEq
  · skip
    obtain ⟨N, n, e⟩ := gbare_fin  hSm
    exact ⟨N, n, (e AOut some).trans hEq⟩
  · cases hEq
theorem gup_text (α : Type) (v n : Int) (k : AOut → Option α) : evFn real tab ((twY fsGn spG).env real tab 8 8) 8 Tryz.f16 α [.int .i64 v, .int .i64 n] k = k (.ret (.agg [iN 0, iN 0, iN 0, iN v, iN n])) := by kernel_rfl
theorem gup_fin (v m : Int) (hs : ∀ qSm ∈ ([.int .i64 v, .int .i64 m] : List AVal), Sm qSm) : ∃ N n, ∀ α (k : AOut → Option α), evFn real tab ((twY fsGn spG).env real tab N n) N Tryz.f16 α [.int .i64 v, .int .i64 m] k = k (.ret (.agg [iN 0, iN 0, iN 0, iN v, iN m])) := by
  exact ⟨8, 8, fun α k => gup_text α v m k⟩
noncomputable def gupS : Fsp := fun _ args k => match args with
  | [.int .i64 v, .int .i64 m] => k (.ret (.agg [iN 0, iN 0, iN 0, iN v, iN m]))
  | _ => none
theorem gupS_ok : FspOk Tryz.prog 16 gupS := tower_Y fsGn_ok spG_ok ⟨Tryz.func16, fun _ _ => by kernel_rfl⟩ (by intro α args k; unfold gupS; split <;> rfl) fun args out hSm hEq => by
  unfold gupS at hEq
  split at hEq
  · rename_i v m
    obtain ⟨N, n, e⟩ := gup_fin v m hSm
    exact ⟨N, n, (e AOut some).trans hEq⟩
  · cases hEq
noncomputable def fsGo : FuncId → Option Fsp := fun g =>
  if g = 35 then some gbareS else
  if g = 16 then some gupS else
  if g = 18 then some (evY 110 20 Tryz.f18) else
  if g = 14 then some (evY 110 20 Tryz.f14) else
  if g = 29 then some (evY 110 20 Tryz.f29) else
  if g = 32 then some (evY 310 20 Tryz.f32) else
  if g = 20 then some (evY 110 20 Tryz.f20) else
  if g = 25 then some (evY 110 20 Tryz.f25) else
  fsGn g
theorem fsGo_ok : FsOk fsGo :=
  fs_cons gbareS_ok <|
  fs_cons gupS_ok <|
  fs_cons (evY_ok ⟨Tryz.func18, fun _ _ => by kernel_rfl⟩ 110 20) <|
  fs_cons (evY_ok ⟨Tryz.func14, fun _ _ => by kernel_rfl⟩ 110 20) <|
  fs_cons (evY_ok ⟨Tryz.func29, fun _ _ => by kernel_rfl⟩ 110 20) <|
  fs_cons (evY_ok ⟨Tryz.func32, fun _ _ => by kernel_rfl⟩ 310 20) <|
  fs_cons (evY_ok ⟨Tryz.func20, fun _ _ => by kernel_rfl⟩ 110 20) <|
  fs_cons (evY_ok ⟨Tryz.func25, fun _ _ => by kernel_rfl⟩ 110 20) <|
  fsGn_ok
set_option maxRecDepth 100000 in
theorem galive_text (α : Type) (k : AOut → Option α) : evFn real tab ((twY fsGo spG).env real tab 110 20) 110 Tryz.f12 α [] k = k (b1 true) := by kernel_rfl
theorem galive_fin  (hs : ∀ qSm ∈ ([] : List AVal), Sm qSm) : ∃ N n, ∀ α (k : AOut → Option α), evFn real tab ((twY fsGo spG).env real tab N n) N Tryz.f12 α [] k = k (b1 true) := by
  exact ⟨110, 20, fun α k => galive_text α k⟩
noncomputable def galiveS : Fsp := fun _ args k => match args with
  | [] => k (b1 true)
  | _ => none
theorem galiveS_ok : FspOk Tryz.prog 12 galiveS := tower_Y fsGo_ok spG_ok ⟨Tryz.func12, fun _ _ => by kernel_rfl⟩ (by intro α args k; unfold galiveS; split <;> rfl) fun args out hSm hEq => by
  unfold galiveS at hEq
  split at hEq
  · skip
    obtain ⟨N, n, e⟩ := galive_fin  hSm
    exact ⟨N, n, (e AOut some).trans hEq⟩
  · cases hEq
end Go.Proofs.YtgpljldfbhkdlaaGreat

namespace Go.Proofs.YtgpljldfbhkdlaaGreat
open Go.RowKit
section
variable {α : Type}
def gcdF : Int × Int × Unit → Option (LRes (Int × Int × Unit) α) := fun x =>
  bif decide (x.2.1 > 0) then
    if x.2.1 = 0 then none else some (LRes.cont (x.2.1, x.1.tmod x.2.1, ()))
  else some (LRes.brk 0 (x.1, x.2.1, ()))
theorem gcd_loop : ∀ (m a b : Nat), b ≤ m → iterL (α := α) (m + 1) gcdF ((a : Int), (b : Int), ()) = some (.brk 0 ((Nat.gcd a b : Nat), 0, ()))
  | 0, a, b, hb => by
    have : b = 0 := by omega
    subst this
    simp [iterL, gcdF]
  | m + 1, a, b, hb => by
    rcases Nat.eq_zero_or_pos b with rfl | h0
    · simp [iterL, gcdF]
    · have e : gcdF (α := α) ((a : Int), (b : Int), ()) = some (LRes.cont ((b : Int), ((a % b : Nat) : Int), ())) := by
        unfold gcdF
        simp only
        rw [decide_eq_true (show (b : Int) > 0 by omega), cond_true, if_neg (by omega), Int.tmod_eq_emod_of_nonneg (by omega)]
        simp
      have ih := gcd_loop m b (a % b) (by have := Nat.mod_lt a h0; omega)
      conv => lhs; unfold iterL
      rw [e]
      simp only
      rw [ih, Nat.gcd_comm a b, Nat.gcd_rec b a, Nat.gcd_comm]
end
def smlB (a : Int) : Bool := decide (-70368744177664 ≤ a) && decide (a ≤ 70368744177664)
def gcdI (a b : Int) : Int := (Nat.gcd a.natAbs b.natAbs : Nat)
theorem mx_abs {a : Int} (h : smlB a = true) : mx a (IntKind.i64.wrap (0 - a)) = (a.natAbs : Int) := by
  simp only [smlB, Bool.and_eq_true, decide_eq_true_eq] at h
  rw [i64_in (0 - a) (by omega)]
  unfold mx
  split <;> omega
noncomputable def igcdS : Fsp := fun _ args k => match args with
  | [.int .i64 a, .int .i64 b] => bif smlB a && smlB b then k (i1 (gcdI a b)) else none
  | _ => none
theorem iints_text (N n0 : Nat) (α : Type) (xs ys : List Int) (k : AOut → Option α) : evFn real tab ((twY fsIb spL).env real tab N (n0 + 8)) N Tryz.f36 α [.ro (.int .i64) xs, .ro (.int .i64) ys] k =
 bif (xs.length : Int) != (ys.length : Int) then k (b1 false) else afterL (iterL N (fun x : Int × Unit => bif decide (x.1 < (xs.length : Int)) then if 0 ≤ x.1 ∧ x.1 < (xs.length :
 Int) then if 0 ≤ x.1 ∧ x.1 < (ys.length : Int) then bif xs.getD x.1.toNat 0 != ys.getD x.1.toNat 0 then finL (k (b1 false)) else some (LRes.cont (IntKind.i64.wrap (x.1 + 1), ()))
 else none else none else some (LRes.brk 0 (x.1, ()))) (0, ())) fun id _ => if id = 0 then k (b1 true) else none := by kernel_rfl
theorem list_eq_getD {xs ys : List Int} (h : xs.length = ys.length) : (!(List.range xs.length).any fun i => xs.getD i 0 != ys.getD i 0) = (xs == ys) := by
  rw [Bool.eq_iff_iff, Bool.not_eq_true', beq_iff_eq]
  constructor
  · intro hn
    refine List.ext_getElem h fun i h1 h2 => ?_
    have : ¬ (xs.getD i 0 != ys.getD i 0) = true := fun hc => by
      have := (List.any_eq_true (p := fun i => xs.getD i 0 != ys.getD i 0)).2 ⟨i, List.mem_range.2 h1, hc⟩
      rw [hn] at this; cases this
    rw [List.getD_eq_getElem?_getD, List.getD_eq_getElem?_getD, List.getElem?_eq_getElem h1, List.getElem?_eq_getElem h2] at this
    simpa using this
  · rintro rfl
    simp
theorem iints_fin (xs ys : List Int) (hs : ∀ qSm ∈ ([.ro (.int .i64) xs, .ro (.int .i64) ys] : List AVal), Sm qSm) : ∃ N n, ∀ α (k : AOut → Option α), evFn real tab ((twY fsIb spL).env real tab N n) N Tryz.f36 α [.ro (.int .i64) xs, .ro (.int .i64) ys] k = k (b1 (BEq.beq (α := List Int) xs ys)) := by
  have hl : xs.length ≤ maxLen := (hs _ (List.mem_cons_self ..)).len
  refine ⟨xs.length + 1, 8, fun α k => (iints_text (xs.length + 1) 0 α xs ys k).trans ?_⟩
  by_cases hn : xs.length = ys.length
  · rw [show ((xs.length : Int) != (ys.length : Int)) = false by simp [hn], cond_false]
    refine (any_loop (fun i : Nat => ((i : Int), ())) xs.length (fun i => xs.getD i 0 != ys.getD i 0) (b := 0) (y := ((xs.length : Int), ())) (k (b1 false)) (fun i hi => ?_) ?_).trans ?_
    · simp only [lt_len hi, cond_true]
      rw [if_pos (in_len hi), if_pos (in_len (by omega)), wrap_next hi hl]
      rfl
    · simp only [not_lt_len, cond_false]
    · have e := list_eq_getD hn
      rw [← e]
      cases (List.range xs.length).any fun i => xs.getD i 0 != ys.getD i 0 <;> rfl
  · rw [show ((xs.length : Int) != (ys.length : Int)) = true by simp; omega, cond_true]
    have : (xs == ys) = false := by
      rw [beq_eq_false_iff_ne]; rintro rfl; exact hn rfl
    rw [this]
noncomputable def iintsS : Fsp := fun _ args k => match args with
  | [.ro (.int .i64) xs, .ro (.int .i64) ys] => k (b1 (BEq.beq (α := List Int) xs ys))
  | _ => none
theorem iintsS_ok : FspOk Tryz.prog 36 iintsS := tower_Y fsIb_ok spL_ok ⟨Tryz.func36, fun _ _ => by kernel_rfl⟩ (by intro α args k; unfold iintsS; split <;> rfl) fun args out hSm hEq => by
  unfold iintsS at hEq
  split at hEq
  · rename_i xs ys
    obtain ⟨N, n, e⟩ := iints_fin xs ys hSm
    exact ⟨N, n, (e AOut some).trans hEq⟩
  · cases hEq
noncomputable def fsIc : FuncId → Option Fsp := fun g =>
  if g = 36 then some iintsS else
  fsIb g
theorem fsIc_ok : FsOk fsIc :=
  fs_cons iintsS_ok <|
  fsIb_ok
end Go.Proofs.YtgpljldfbhkdlaaGreat

namespace Go.Proofs.YtgpljldfbhkdlaaGreat
open Go.RowKit
noncomputable def fsIs : FuncId → Option Fsp := fun g =>
  if g = 36 then some iintsS else
  fsI11 g
theorem fsIs_ok : FsOk fsIs :=
  fs_cons iintsS_ok <|
  fsI11_ok
def sameB (cx cy sd w h : Int) (pb po : List Int) (cx' cy' sd' w' h' : Int) (pb' po' : List Int) : Bool :=
  ((cx == cx' && cy == cy') && (sd == sd' && (w == w' && h == h'))) && (BEq.beq (α := List Int) pb pb' && BEq.beq (α := List Int) po po')
section
variable {α : Type}
def cmpF (b : Nat) (xs ys : List Int) (kf : Option α) (x : Int × Unit) : Option (LRes (Int × Unit) α) :=
  bif decide (x.1 < (xs.length : Int)) then
    if 0 ≤ x.1 ∧ x.1 < (xs.length : Int) then
      if 0 ≤ x.1 ∧ x.1 < (ys.length : Int) then
        bif xs.getD x.1.toNat 0 != ys.getD x.1.toNat 0 then finL kf
        else some (LRes.cont (IntKind.i64.wrap (x.1 + 1), ()))
      else none
    else none
  else some (LRes.brk b (x.1, ()))
theorem any_from {σ : Type} {f : σ → Option (LRes σ α)} (st : Nat → σ) (p : Nat → Bool) {R E : Option (LRes σ α)} (hR : ∀ y, R ≠ some (.cont y)) (hE : ∀ y, E ≠ some (.cont y)) (n : Nat) (h : ∀ i, i < n → f (st i) = bif p i then R else some (.cont (st (i + 1)))) (hend : f (st n) = E) :
    ∀ k m, m + k = n → ∀ N, k < N → iterL N f (st m) = bif (List.range' m k).any p then R else E
  | 0, m, hm, N, hN => by
    cases N with
    | zero => omega
    | succ N =>
      have : m = n := by omega
      subst this
      simp only [iterL, hend]
      simp only [List.range'_zero, List.any_nil, cond_false]
  | k + 1, m, hm, N, hN => by
    cases N with
    | zero => omega
    | succ N =>
      have hf := h m (by omega)
      have ih := any_from st p hR hE n h hend k (m + 1) (by omega) N (by omega)
      rw [List.range'_succ, List.any_cons]
      cases hp : p m
      · rw [hp] at hf
        rw [Bool.false_or, ← ih]
        conv => lhs; unfold iterL
        rw [hf]
        rfl
      · rw [hp] at hf
        simp only [iterL, hf, cond_true, Bool.true_or]
theorem any_loop' {σ : Type} {f : σ → Option (LRes σ α)} {K : Nat → σ → Option α} (st : Nat → σ) (n : Nat) (p : Nat → Bool) {b : Nat} {y : σ} (R : Option α) (h : ∀ i, i < n → f (st i) = bif p i then finL R else some (.cont (st (i + 1)))) (hend : f (st n) = some (.brk b y)) {N : Nat} (hN : n < N) : afterL (iterL N f (st 0)) K = bif (List.range n).any p then R else K b y := by
  rw [any_from st p (fin_not R) (brk_not b y) n h hend n 0 (by omega) N hN, ← List.range_eq_range']
  cases (List.range n).any p
  · rfl
  · cases R <;> rfl
theorem cmp_loop (b : Nat) (xs ys : List Int) (kf K : Option α) (hn : xs.length = ys.length) (hl : xs.length ≤ maxLen) {N : Nat} (hN : xs.length < N) :
    (afterL (iterL N (cmpF b xs ys kf) (0, ())) fun id _ => if id = b then K else none) = bif BEq.beq (α := List Int) xs ys then K else kf := by
  refine (any_loop' (fun i : Nat => ((i : Int), ())) xs.length (fun i => xs.getD i 0 != ys.getD i 0) (b := b) (y := ((xs.length : Int), ())) kf (fun i hi => ?_) ?_ hN).trans ?_
  · unfold cmpF
    simp only [lt_len hi, cond_true]
    rw [if_pos (in_len hi), if_pos (in_len (by omega)), wrap_next hi hl]
    rfl
  · unfold cmpF
    simp only [not_lt_len, cond_false]
  · have e := list_eq_getD hn
    rw [← e, if_pos rfl]
    cases (List.range xs.length).any fun i => xs.getD i 0 != ys.getD i 0 <;> rfl
theorem Sm.at {cs : List AVal} {j : Nat} {c : AVal} (h : Sm (.agg cs)) (hc : cs[j]? = some c) : Sm c := by
  cases h with
  | agg _ h => exact h j c hc
  | other _ h => cases h
theorem len_ne {xs ys : List Int} (h : ¬ xs.length = ys.length) : (BEq.beq (α := List Int) xs ys) = false := by
  rw [beq_eq_false_iff_ne]; rintro rfl; exact h rfl
end
set_option maxRecDepth 100000 in
theorem isame_text (N n0 : Nat) (α : Type) (cx cy sd w h : Int) (pb po : List Int) (cx' cy' sd' w' h' : Int) (pb' po' : List Int) (k : AOut → Option α) : evFn real tab ((twY fsIs spL).env real tab N (n0 + 8)) N Tryz.f34 α [.agg [.int .i64 cx, .int .i64 cy, .int .i64 sd, .int .i64 w, .int .i64 h, .ro (.int .i64) pb, .ro (.int .i64) po], .agg [.int .i64 cx', .int .i64 cy', .int .i64 sd', .int .i64 w', .int .i64 h', .ro (.int .i64) pb', .ro (.int .i64) po']] k =
 bif !(cx == cx' && (cy == cy' && true)) then k (b1 false) else bif sd != sd' then k (b1 false) else bif w != w' then k (b1 false) else bif h != h' then k (b1 false) else bif
 (pb.length : Int) != (pb'.length : Int) then k (b1 false) else bif (po.length : Int) != (po'.length : Int) then k (b1 false) else afterL (iterL N (cmpF 0 pb pb' (k (b1 false))) (0,
 ())) fun id _ => if id = 0 then afterL (iterL N (cmpF 2 po po' (k (b1 false))) (0, ())) fun id _ => if id = 2 then k (b1 true) else none else none := by kernel_rfl
theorem isame_fin (cx cy sd w h : Int) (pb po : List Int) (cx' cy' sd' w' h' : Int) (pb' po' : List Int) (hs : ∀ qSm ∈ ([.agg [.int .i64 cx, .int .i64 cy, .int .i64 sd, .int .i64 w, .int .i64 h, .ro (.int .i64) pb, .ro (.int .i64) po], .agg [.int .i64 cx', .int .i64 cy', .int .i64 sd', .int .i64 w', .int .i64 h', .ro (.int .i64) pb', .ro (.int .i64) po']] : List AVal), Sm qSm) : ∃ N n, ∀ α (k : AOut → Option α), evFn real tab ((twY fsIs spL).env real tab N n) N Tryz.f34 α [.agg [.int .i64 cx, .int .i64 cy, .int .i64 sd, .int .i64 w, .int .i64 h, .ro (.int .i64) pb, .ro (.int .i64) po], .agg [.int .i64 cx', .int .i64 cy', .int .i64 sd', .int .i64 w', .int .i64 h', .ro (.int .i64) pb', .ro (.int .i64) po']] k = k (b1 (sameB cx cy sd w h pb po cx' cy' sd' w' h' pb' po')) := by
  have sm : ∀ {j : Nat} {c : List AVal} {e : AVal}, AVal.agg c ∈ ([.agg [.int .i64 cx, .int .i64 cy, .int .i64 sd, .int .i64 w, .int .i64 h, .ro (.int .i64) pb, .ro (.int .i64) po], .agg [.int .i64 cx', .int .i64 cy', .int .i64 sd', .int .i64 w', .int .i64 h', .ro (.int .i64) pb', .ro (.int .i64) po']] : List AVal) → c[j]? = some e → Sm e := fun h1 h2 => (hs _ h1).at h2
  have l1 : pb.length ≤ maxLen := (sm (j := 5) (List.mem_cons_self ..) rfl).len
  have l2 : po.length ≤ maxLen := (sm (j := 6) (List.mem_cons_self ..) rfl).len
  refine ⟨pb.length + po.length + 1, 8, fun α k => (isame_text (pb.length + po.length + 1) 0 α cx cy sd w h pb po cx' cy' sd' w' h' pb' po' k).trans ?_⟩
  unfold sameB
  cases cx == cx'
  · rfl
  cases cy == cy'
  · rfl
  simp only [bne]
  cases sd == sd'
  · rfl
  cases w == w'
  · rfl
  cases h == h'
  · rfl
  by_cases n1 : pb.length = pb'.length
  · by_cases n2 : po.length = po'.length
    · rw [show ((pb.length : Int) == (pb'.length : Int)) = true by simp; omega, show ((po.length : Int) == (po'.length : Int)) = true by simp; omega]
      simp only [Bool.not_true, Bool.and_self, Bool.true_and, cond_false]
      rw [cmp_loop 2 po po' _ _ n2 l2 (by omega), cmp_loop 0 pb pb' _ _ n1 l1 (by omega)]
      cases BEq.beq (α := List Int) pb pb' <;> cases BEq.beq (α := List Int) po po' <;> rfl
    · rw [show ((pb.length : Int) == (pb'.length : Int)) = true by simp; omega, show ((po.length : Int) == (po'.length : Int)) = false by simp; omega, len_ne n2, Bool.and_false]
      rfl
  · rw [show ((pb.length : Int) == (pb'.length : Int)) = false by simp; omega, len_ne n1]
    rfl
noncomputable def isameS : Fsp := fun _ args k => match args with
  | [.agg [.int .i64 cx, .int .i64 cy, .int .i64 sd, .int .i64 w, .int .i64 h, .ro (.int .i64) pb, .ro (.int .i64) po], .agg [.int .i64 cx', .int .i64 cy', .int .i64 sd', .int .i64 w', .int .i64 h', .ro (.int .i64) pb', .ro (.int .i64) po']] => k (b1 (sameB cx cy sd w h pb po cx' cy' sd' w' h' pb' po'))
  | _ => none
theorem isameS_ok : FspOk Tryz.prog 34 isameS := tower_Y fsIs_ok spL_ok ⟨Tryz.func34, fun _ _ => by kernel_rfl⟩ (by intro α args k; unfold isameS; split <;> rfl) fun args out hSm hEq => by
  unfold isameS at hEq
  split at hEq
  · rename_i cx cy sd w h pb po cx' cy' sd' w' h' pb' po'
    obtain ⟨N, n, e⟩ := isame_fin cx cy sd w h pb po cx' cy' sd' w' h' pb' po' hSm
    exact ⟨N, n, (e AOut some).trans hEq⟩
  · cases hEq
noncomputable def fsIr : FuncId → Option Fsp := fun g =>
  if g = 34 then some isameS else
  fsIs g
theorem fsIr_ok : FsOk fsIr :=
  fs_cons isameS_ok <|
  fsIs_ok
end Go.Proofs.YtgpljldfbhkdlaaGreat

namespace Go.Proofs.YtgpljldfbhkdlaaGreat
open Go.RowKit
noncomputable def fsGw : FuncId → Option Fsp := fun g =>
  if g = 12 then some galiveS else
  if g = 32 then some gWornTS else
  if g = 33 then some rWornTS else
  if g = 34 then some isameS else
  fsG7 g
theorem fsGw_ok : FsOk fsGw :=
  fs_cons galiveS_ok <|
  fs_cons gWornTS_ok <|
  fs_cons rWornTS_ok <|
  fs_cons isameS_ok <|
  fsG7_ok
set_option maxRecDepth 100000 in
theorem gwear_text (N n0 : Nat) (α : Type) (cx cy sd w h : Int) (pb po : List Int) (fl ke sw be we : Int) (ax ay vx vy sp : Int) (l : List BrI) (m : Int) (k : AOut → Option α) : evFn real tab ((twV fsGw spL).env real tab N (n0 + 8)) N Tryz.f10 α [.agg [.int .i64 cx, .int .i64 cy, .int .i64 sd, .int .i64 w, .int .i64 h, .ro (.int .i64) pb, .ro (.int .i64) po, .int .i64 fl, .int .i64 ke, .int .i64 sw, .int .i64 be, .int .i64 we], .agg [.int .i64 ax, .int .i64 ay, .int .i64 vx, .int .i64 vy, .int .i64 sp], .ro (.recd (.cons (.int .i64) (.cons (.int .i64) (.cons (.int .i64) .nil)))) l, .int .i64 m] k =
 bif decide ((↑pb.length : Int) > 150) then k (AOut.ret (AVal.bool true)) else bif decide ((↑po.length : Int) > 150) then k (AOut.ret (AVal.bool true)) else bif decide ((↑l.length :
 Int) > 66) then k (AOut.ret (AVal.bool true)) else bif decide (m > 40) then bif decide (m ≤ 6000) then k (AOut.ret (AVal.bool true)) else if ((List.nil (α := Int)).length +
 pb.length) * 8 ≤ room then if ((List.nil (α := Int)).length + po.length) * 8 ≤ room then bif sameB (selI (rnB cx cy sd w h ([] ++ pb) ([] ++ po) fl ke sw be we ax ay vx vy sp l m &&
 isS (gRL cx cy sd w h ([] ++ pb) ([] ++ po) fl ke sw be we ax ay vx vy sp l m)) cx) (selI (rnB cx cy sd w h ([] ++ pb) ([] ++ po) fl ke sw be we ax ay vx vy sp l m && isS (gRL cx cy
 sd w h ([] ++ pb) ([] ++ po) fl ke sw be we ax ay vx vy sp l m)) cy) (selI (rnB cx cy sd w h ([] ++ pb) ([] ++ po) fl ke sw be we ax ay vx vy sp l m && isS (gRL cx cy sd w h ([] ++
 pb) ([] ++ po) fl ke sw be we ax ay vx vy sp l m)) sd) (selI (rnB cx cy sd w h ([] ++ pb) ([] ++ po) fl ke sw be we ax ay vx vy sp l m && isS (gRL cx cy sd w h ([] ++ pb) ([] ++ po)
 fl ke sw be we ax ay vx vy sp l m)) w) (selI (rnB cx cy sd w h ([] ++ pb) ([] ++ po) fl ke sw be we ax ay vx vy sp l m && isS (gRL cx cy sd w h ([] ++ pb) ([] ++ po) fl ke sw be we
 ax ay vx vy sp l m)) h) (selL (rnB cx cy sd w h ([] ++ pb) ([] ++ po) fl ke sw be we ax ay vx vy sp l m) (wnP we (gRL cx cy sd w h ([] ++ pb) ([] ++ po) fl ke sw be we ax ay vx vy
 sp l m) cx cy sd w ([] ++ pb) ([] ++ po) ax ay l)) (selL (rnB cx cy sd w h ([] ++ pb) ([] ++ po) fl ke sw be we ax ay vx vy sp l m) (wnQ we (gRL cx cy sd w h ([] ++ pb) ([] ++ po)
 fl ke sw be we ax ay vx vy sp l m) cx cy sd w ([] ++ pb) ([] ++ po) ax ay l)) (selI (rnB cx cy sd w h pb po fl ke sw be we ax ay vx vy sp l m && isS (gRL cx cy sd w h pb po fl ke sw
 be we ax ay vx vy sp l m)) cx) (selI (rnB cx cy sd w h pb po fl ke sw be we ax ay vx vy sp l m && isS (gRL cx cy sd w h pb po fl ke sw be we ax ay vx vy sp l m)) cy) (selI (rnB cx
 cy sd w h pb po fl ke sw be we ax ay vx vy sp l m && isS (gRL cx cy sd w h pb po fl ke sw be we ax ay vx vy sp l m)) sd) (selI (rnB cx cy sd w h pb po fl ke sw be we ax ay vx vy sp
 l m && isS (gRL cx cy sd w h pb po fl ke sw be we ax ay vx vy sp l m)) w) (selI (rnB cx cy sd w h pb po fl ke sw be we ax ay vx vy sp l m && isS (gRL cx cy sd w h pb po fl ke sw be
 we ax ay vx vy sp l m)) h) (selL (rnB cx cy sd w h pb po fl ke sw be we ax ay vx vy sp l m) (wnP we (gRL cx cy sd w h pb po fl ke sw be we ax ay vx vy sp l m) cx cy sd w pb po ax ay
 l)) (selL (rnB cx cy sd w h pb po fl ke sw be we ax ay vx vy sp l m) (wnQ we (gRL cx cy sd w h pb po fl ke sw be we ax ay vx vy sp l m) cx cy sd w pb po ax ay l)) then bif rnZ (rnB
 cx cy sd w h ([] ++ pb) ([] ++ po) fl ke sw be we ax ay vx vy sp l m) (gRL cx cy sd w h ([] ++ pb) ([] ++ po) fl ke sw be we ax ay vx vy sp l m) == rnZ (rnB cx cy sd w h pb po fl ke
 sw be we ax ay vx vy sp l m) (gRL cx cy sd w h pb po fl ke sw be we ax ay vx vy sp l m) then bif sameB cx cy sd w h ([] ++ pb) ([] ++ po) cx cy sd w h pb po then k (AOut.ret
 (AVal.bool true)) else k (AOut.ret (AVal.bool false)) else k (AOut.ret (AVal.bool false)) else k (AOut.ret (AVal.bool false)) else none else none else if ((List.nil (α :=
 Int)).length + pb.length) * 8 ≤ room then if ((List.nil (α := Int)).length + po.length) * 8 ≤ room then bif sameB (selI (rnB cx cy sd w h ([] ++ pb) ([] ++ po) fl ke sw be we ax ay
 vx vy sp l m && isS (gRL cx cy sd w h ([] ++ pb) ([] ++ po) fl ke sw be we ax ay vx vy sp l m)) cx) (selI (rnB cx cy sd w h ([] ++ pb) ([] ++ po) fl ke sw be we ax ay vx vy sp l m
 && isS (gRL cx cy sd w h ([] ++ pb) ([] ++ po) fl ke sw be we ax ay vx vy sp l m)) cy) (selI (rnB cx cy sd w h ([] ++ pb) ([] ++ po) fl ke sw be we ax ay vx vy sp l m && isS (gRL cx
 cy sd w h ([] ++ pb) ([] ++ po) fl ke sw be we ax ay vx vy sp l m)) sd) (selI (rnB cx cy sd w h ([] ++ pb) ([] ++ po) fl ke sw be we ax ay vx vy sp l m && isS (gRL cx cy sd w h ([]
 ++ pb) ([] ++ po) fl ke sw be we ax ay vx vy sp l m)) w) (selI (rnB cx cy sd w h ([] ++ pb) ([] ++ po) fl ke sw be we ax ay vx vy sp l m && isS (gRL cx cy sd w h ([] ++ pb) ([] ++
 po) fl ke sw be we ax ay vx vy sp l m)) h) (selL (rnB cx cy sd w h ([] ++ pb) ([] ++ po) fl ke sw be we ax ay vx vy sp l m) (wnP we (gRL cx cy sd w h ([] ++ pb) ([] ++ po) fl ke sw
 be we ax ay vx vy sp l m) cx cy sd w ([] ++ pb) ([] ++ po) ax ay l)) (selL (rnB cx cy sd w h ([] ++ pb) ([] ++ po) fl ke sw be we ax ay vx vy sp l m) (wnQ we (gRL cx cy sd w h ([]
 ++ pb) ([] ++ po) fl ke sw be we ax ay vx vy sp l m) cx cy sd w ([] ++ pb) ([] ++ po) ax ay l)) (selI (rnB cx cy sd w h pb po fl ke sw be we ax ay vx vy sp l m && isS (gRL cx cy sd
 w h pb po fl ke sw be we ax ay vx vy sp l m)) cx) (selI (rnB cx cy sd w h pb po fl ke sw be we ax ay vx vy sp l m && isS (gRL cx cy sd w h pb po fl ke sw be we ax ay vx vy sp l m))
 cy) (selI (rnB cx cy sd w h pb po fl ke sw be we ax ay vx vy sp l m && isS (gRL cx cy sd w h pb po fl ke sw be we ax ay vx vy sp l m)) sd) (selI (rnB cx cy sd w h pb po fl ke sw be
 we ax ay vx vy sp l m && isS (gRL cx cy sd w h pb po fl ke sw be we ax ay vx vy sp l m)) w) (selI (rnB cx cy sd w h pb po fl ke sw be we ax ay vx vy sp l m && isS (gRL cx cy sd w h
 pb po fl ke sw be we ax ay vx vy sp l m)) h) (selL (rnB cx cy sd w h pb po fl ke sw be we ax ay vx vy sp l m) (wnP we (gRL cx cy sd w h pb po fl ke sw be we ax ay vx vy sp l m) cx
 cy sd w pb po ax ay l)) (selL (rnB cx cy sd w h pb po fl ke sw be we ax ay vx vy sp l m) (wnQ we (gRL cx cy sd w h pb po fl ke sw be we ax ay vx vy sp l m) cx cy sd w pb po ax ay
 l)) then bif rnZ (rnB cx cy sd w h ([] ++ pb) ([] ++ po) fl ke sw be we ax ay vx vy sp l m) (gRL cx cy sd w h ([] ++ pb) ([] ++ po) fl ke sw be we ax ay vx vy sp l m) == rnZ (rnB cx
 cy sd w h pb po fl ke sw be we ax ay vx vy sp l m) (gRL cx cy sd w h pb po fl ke sw be we ax ay vx vy sp l m) then bif sameB cx cy sd w h ([] ++ pb) ([] ++ po) cx cy sd w h pb po
 then k (AOut.ret (AVal.bool true)) else k (AOut.ret (AVal.bool false)) else k (AOut.ret (AVal.bool false)) else k (AOut.ret (AVal.bool false)) else none else none := by kernel_rfl
theorem samI_self (cx cy sd w h : Int) (pb po : List Int) : sameB cx cy sd w h pb po cx cy sd w h pb po = true := by simp [sameB]
theorem gwear_true (cx cy sd w h : Int) (pb po : List Int) (fl ke sw be we : Int) (ax ay vx vy sp : Int) (l : List BrI) (m : Int) : evFn real tab ((twV fsGw spL).env real tab 8 8) 8 Tryz.f10 AOut [.agg [.int .i64 cx, .int .i64 cy, .int .i64 sd, .int .i64 w, .int .i64 h, .ro (.int .i64) pb, .ro (.int .i64) po, .int .i64 fl, .int .i64 ke, .int .i64 sw, .int .i64 be, .int .i64 we], .agg [.int .i64 ax, .int .i64 ay, .int .i64 vx, .int .i64 vy, .int .i64 sp], .ro (.recd (.cons (.int .i64) (.cons (.int .i64) (.cons (.int .i64) .nil)))) l, .int .i64 m] some = some (b1 true) := by
  refine (gwear_text 8 0 AOut cx cy sd w h pb po fl ke sw be we ax ay vx vy sp l m some).trans ?_
  by_cases h1 : (pb.length : Int) > 150
  · rw [decide_eq_true h1]; rfl
  by_cases h2 : (po.length : Int) > 150
  · rw [decide_eq_false h1, decide_eq_true h2]; rfl
  by_cases h3 : (l.length : Int) > 66
  · rw [decide_eq_false h1, decide_eq_false h2, decide_eq_true h3]; rfl
  have r1 : ((List.nil (α := Int)).length + pb.length) * 8 ≤ room := by simp [room]; omega
  have r2 : ((List.nil (α := Int)).length + po.length) * 8 ≤ room := by simp [room]; omega
  rw [decide_eq_false h1, decide_eq_false h2, decide_eq_false h3, if_pos r1, if_pos r2]
  simp only [List.nil_append, samI_self, BEq.rfl, cond_true, cond_false]
  cases decide (m > 40) <;> cases decide (m ≤ 6000) <;> rfl
def gwearF : List AVal → Option AOut
  | [.agg [.int .i64 cx, .int .i64 cy, .int .i64 sd, .int .i64 w, .int .i64 h, .ro (.int .i64) pb, .ro (.int .i64) po, .int .i64 fl, .int .i64 ke, .int .i64 sw, .int .i64 be, .int .i64 we], .agg [.int .i64 ax, .int .i64 ay, .int .i64 vx, .int .i64 vy, .int .i64 sp], .ro (.recd (.cons (.int .i64) (.cons (.int .i64) (.cons (.int .i64) .nil)))) l, .int .i64 m] => some (b1 true)
  | _ => none
theorem gwear_ok : FspOk Tryz.prog 10 (toFsp gwearF) := tower_V fsGw_ok spL_ok ⟨Tryz.func10, fun _ _ => by kernel_rfl⟩ (toFsp_nat _) fun args out hSm hq => by
  replace hq := toFsp_some hq
  unfold gwearF at hq
  split at hq
  · rename_i cx cy sd w h pb po fl ke sw be we ax ay vx vy sp l m
    cases hq
    exact ⟨8, 8, gwear_true cx cy sd w h pb po fl ke sw be we ax ay vx vy sp l m⟩
  · cases hq
end Go.Proofs.YtgpljldfbhkdlaaGreat
