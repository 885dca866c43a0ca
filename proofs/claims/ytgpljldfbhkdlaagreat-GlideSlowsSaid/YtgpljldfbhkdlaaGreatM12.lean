/- Parts of the proof, in build order. -/
import Derived.Test.YtgpljldfbhkdlaaGreatM11
import Derived.Test.YtgpljldfbhkdlaaGreatM10
import Derived.Test.YtgpljldfbhkdlaaGreatM6
/- The reference: stones, brooms, ticks (layer 4). -/
namespace Go.Proofs.YtgpljldfbhkdlaaGreat
open Go.RowKit

--AT fnR3 spL twY
def lefX (x y : Int) : Int := bif okB x && okB y then IntKind.i64.wrap (0 - y) else 0
def lefY (x y : Int) : Int := bif okB x && okB y then x else 0
--FIN rleft | besom/besomref01.Left | (x y : Int) | $S{x y} | .ret (.agg [.int .i64 (lefX x y), .int .i64 (lefY x y)])
theorem rleft_fin (x y : Int) (hs : ∀ qSm ∈ ([.agg [.int .i64 x, .int .i64 y]] : List AVal), Sm qSm) : ∃ N n, ∀ α (k : AOut → Option α), evFn real tab ((twY fnR3 spL).env real tab N n) N Tryz.f117 α [.agg [.int .i64 x, .int .i64 y]] k = k (.ret (.agg [.int .i64 (lefX x y), .int .i64 (lefY x y)])) := by
  refine ⟨8, 8, fun α k => (rleft_text 8 0 α x y k).trans ?_⟩
  unfold lefX lefY
  cases okB x
  · rfl
  cases okB y <;> rfl
--CON rleft
noncomputable def rleftS : Fsp := fun _ args k => match args with
  | [.agg [.int .i64 x, .int .i64 y]] => k (.ret (.agg [.int .i64 (lefX x y), .int .i64 (lefY x y)]))
  | _ => none
theorem rleftS_ok : FspOk Tryz.prog 117 rleftS := tower_Y fnR3_ok spL_ok ⟨Tryz.func117, fun _ _ => by kernel_rfl⟩ (by intro α args k; unfold rleftS; split <;> rfl) fun args out hSm hEq => by
  unfold rleftS at hEq
  split at hEq
  · rename_i x y
    obtain ⟨N, n, e⟩ := rleft_fin x y hSm
    exact ⟨N, n, (e AOut some).trans hEq⟩
  · cases hEq
--END
--FIN rmov | besom/besomref04.Moving | $MB | $MO | b1 (movB $MV)
theorem rmov_fin (ax ay vx vy sp : Int) (hs : ∀ qSm ∈ ([.agg [.int .i64 ax, .int .i64 ay, .int .i64 vx, .int .i64 vy, .int .i64 sp]] : List AVal), Sm qSm) : ∃ N n, ∀ α (k : AOut → Option α), evFn real tab ((twY fnR3 spL).env real tab N n) N Tryz.f62 α [.agg [.int .i64 ax, .int .i64 ay, .int .i64 vx, .int .i64 vy, .int .i64 sp]] k = k (b1 (movB ax ay vx vy sp)) := by
  refine ⟨8, 8, fun α k => (rmov_text 8 0 α ax ay vx vy sp k).trans ?_⟩
  unfold movB
  rw [ge_le, ge_le]
  cases plcB ax ay <;> cases decide (-65536000 ≤ vx) <;> cases decide (-65536000 ≤ vy) <;> cases decide (vx ≤ 65536000) <;> cases decide (vy ≤ 65536000) <;> cases decide (-1000 ≤ sp) <;> rfl
--CON rmov
noncomputable def rmovS : Fsp := fun _ args k => match args with
  | [.agg [.int .i64 ax, .int .i64 ay, .int .i64 vx, .int .i64 vy, .int .i64 sp]] => k (b1 (movB ax ay vx vy sp))
  | _ => none
theorem rmovS_ok : FspOk Tryz.prog 62 rmovS := tower_Y fnR3_ok spL_ok ⟨Tryz.func62, fun _ _ => by kernel_rfl⟩ (by intro α args k; unfold rmovS; split <;> rfl) fun args out hSm hEq => by
  unfold rmovS at hEq
  split at hEq
  · rename_i ax ay vx vy sp
    obtain ⟨N, n, e⟩ := rmov_fin ax ay vx vy sp hSm
    exact ⟨N, n, (e AOut some).trans hEq⟩
  · cases hEq
--END
--FS fnRa | fnR3 | rleft;rmov;rlen=besom/besomref01.Length;rtimes=besom/besomref01.Times;rslow=besom/besomref03.Slow;rbend=besom/besomref03.Bend
noncomputable def fnRa : FuncId → Option Fsp := fun g =>
  if g = 117 then some rleftS else
  if g = 62 then some rmovS else
  if g = 113 then some rlenS else
  if g = 116 then some rtimesS else
  if g = 17 then some rslowS else
  if g = 112 then some rbendS else
  fnR3 g
theorem fnRa_ok : FsOk fnRa :=
  fs_cons rleftS_ok <|
  fs_cons rmovS_ok <|
  fs_cons rlenS_ok <|
  fs_cons rtimesS_ok <|
  fs_cons rslowS_ok <|
  fs_cons rbendS_ok <|
  fnR3_ok
--END
/-! Plain numbers. -/
theorem ml_cut {a b : Int} (ha : -1048576 ≤ a ∧ a ≤ 1048576) (hb : -1048576 ≤ b ∧ b ≤ 1048576) : mulE a b 0 = 0 ∧ mulV a b 0 = cutP a b := by
  obtain ⟨_, p2, p3⟩ := pr_cut2 ha hb
  unfold mulE mulV mulB fxE fxV
  rw [ok_le ha (by omega), ok_le hb (by omega), p2, p3]
  exact ⟨rfl, rfl⟩
theorem sc_spin {c sp : Int} (hc : 0 ≤ c ∧ c ≤ 65536) (hs : -1000 ≤ sp ∧ sp ≤ 1000) : scV c sp 1000 0 = spnV c sp := by
  have hi := (spn_in hc hs).1
  have hg : scG c sp 1000 = ngB sp := by unfold scG; rw [ng_pos hc.1, ng_pos (x := 1000) (by omega)]; cases ngB sp <;> rfl
  have hN : scN c sp 1000 0 = c * ab sp / 1000 := by
    unfold scN
    rw [ab_pos hc.1, show ab 1000 = 1000 from rfl, rnd_cut]
  have hok : scB c sp 1000 0 = true := by
    unfold scB
    rw [ok_iff.2 (by omega), rate_iff.2 (by omega), rate_iff.2 (by omega)]; rfl
  have hf : fxB (c * ab sp / 1000) = true := decide_eq_true (by omega)
  unfold scV fxV
  rw [hok, hN, hg, hf]
  rfl
--AT fnRa spL twY
def rbrT {α : Type} (l : List BrI) (N : Nat) (k : AOut → Option α) : Option α :=
  afterL
    (iterL N
      (fun (x : Int × PUnit) =>
        bif decide (x.1 < (l.length : Int)) then
          if 0 ≤ x.1 ∧ x.1 < (l.length : Int) then
            if 0 ≤ x.1 ∧ x.1 < (l.length : Int) then
              bif decide (0 ≤ (l.getD x.1.toNat brD).1) then
                bif !decide ((l.getD x.1.toNat brD).1 ≤ (l.getD x.1.toNat brD).2.1) then finL (k (b1 false))
                else
                  if 0 ≤ x.1 ∧ x.1 < (l.length : Int) then
                    bif decide ((l.getD x.1.toNat brD).2.1 > 6000) then finL (k (b1 false))
                    else
                      if 0 ≤ x.1 ∧ x.1 < (l.length : Int) then
                        bif decide (0 ≤ (l.getD x.1.toNat brD).2.2.1) then
                          bif !decide ((l.getD x.1.toNat brD).2.2.1 ≤ 1000) then finL (k (b1 false))
                          else some (LRes.cont (IntKind.i64.wrap (x.1 + 1), PUnit.unit))
                        else finL (k (b1 false))
                      else none
                  else none
              else finL (k (b1 false))
            else none
          else none
        else some (LRes.brk 0 (x.1, PUnit.unit)))
      (0, PUnit.unit))
    fun (id : Nat) (_ : Int × PUnit) => if id = 0 then k (b1 (decide ((l.length : Int) ≤ 64))) else none
theorem rbrs_text (N n0 : Nat) (α : Type) (l : List BrI) (k : AOut → Option α) : evFn real tab ((twY fnRa spL).env real tab N (n0 + 8)) N Tryz.f55 α [.ro (.recd (.cons (.int .i64) (.cons (.int .i64) (.cons (.int .i64) .nil)))) l] k = rbrT l N k := by kernel_rfl
theorem rbrs_nil (N n0 : Nat) (α : Type) (k : AOut → Option α) : evFn real tab ((twY fnRa spL).env real tab (N + 1) (n0 + 8)) (N + 1) Tryz.f55 α [.nils] k = k (b1 true) := by kernel_rfl
theorem rbrT_fin {α : Type} (l : List BrI) (hl : l.length ≤ maxLen) (k : AOut → Option α) : rbrT l (l.length + 1) k = k (b1 (brsB l)) := by
  unfold rbrT brsB
  refine (any_loop (fun i : Nat => ((i : Int), PUnit.unit)) l.length (fun i => oddR (l.getD i brD)) (b := 0) (y := ((l.length : Int), PUnit.unit)) (k (b1 false)) (fun i hi => ?_) ?_).trans ?_
  · simp only [lt_len hi, cond_true]
    rw [if_pos (in_len hi), if_pos (in_len hi), if_pos (in_len hi), if_pos (in_len hi), wrap_next hi hl, Int.toNat_natCast, gt_le]
    unfold oddR brmB
    cases decide (0 ≤ (l.getD i brD).1)
    · rfl
    cases decide ((l.getD i brD).1 ≤ (l.getD i brD).2.1)
    · rfl
    cases decide ((l.getD i brD).2.1 ≤ 6000)
    · rfl
    cases decide (0 ≤ (l.getD i brD).2.2.1)
    · rfl
    cases decide ((l.getD i brD).2.2.1 ≤ 1000) <;> rfl
  · simp only [not_lt_len, cond_false]
  · rw [any_rangeX l brD oddR, any_oddR]
    cases l.all brmB <;> cases decide ((l.length : Int) ≤ 64) <;> rfl
noncomputable def rbrsS : Fsp := fun _ args k => match args with
  | [.ro (.recd (.cons (.int .i64) (.cons (.int .i64) (.cons (.int .i64) .nil)))) l] => k (b1 (brsB l))
  | [.nils] => k (b1 true)
  | _ => none
theorem rbrsS_ok : FspOk Tryz.prog 55 rbrsS := tower_Y fnRa_ok spL_ok ⟨Tryz.func55, fun _ _ => by kernel_rfl⟩ (by intro α args k; unfold rbrsS; split <;> rfl) fun args out hSm hEq => by
  unfold rbrsS at hEq
  split at hEq
  · rename_i l
    exact ⟨l.length + 1, 8, (rbrs_text (l.length + 1) 0 AOut l some).trans ((rbrT_fin l (hSm _ (by simp)).len some).trans hEq)⟩
  · exact ⟨1, 8, (rbrs_nil 0 0 AOut some).trans hEq⟩
  · cases hEq
def rsrT {α : Type} (l : List BrI) (t : Int) (N : Nat) (k : AOut → Option α) : Option α :=
  afterL
    (iterL N
      (fun (x : Int × Int × PUnit) =>
        bif decide (x.2.1 < (l.length : Int)) then
          if 0 ≤ x.2.1 ∧ x.2.1 < (l.length : Int) then
            bif decide ((l.getD x.2.1.toNat brD).1 ≤ t) then
              if 0 ≤ x.2.1 ∧ x.2.1 < (l.length : Int) then
                bif decide ((l.getD x.2.1.toNat brD).2.1 > t) then
                  if 0 ≤ x.2.1 ∧ x.2.1 < (l.length : Int) then
                    some (LRes.cont (if x.1 < (l.getD x.2.1.toNat brD).2.2.1 then (l.getD x.2.1.toNat brD).2.2.1 else x.1, IntKind.i64.wrap (x.2.1 + 1), PUnit.unit))
                  else none
                else some (LRes.cont (x.1, IntKind.i64.wrap (x.2.1 + 1), PUnit.unit))
              else none
            else some (LRes.cont (x.1, IntKind.i64.wrap (x.2.1 + 1), PUnit.unit))
          else none
        else some (LRes.brk 0 (x.1, x.2.1, PUnit.unit)))
      (0, 0, PUnit.unit))
    fun (id : Nat) (y : Int × Int × PUnit) => if id = 0 then k (i1 y.1) else none
theorem rstr_text (N n0 : Nat) (α : Type) (l : List BrI) (t : Int) (k : AOut → Option α) : evFn real tab ((twY fnRa spL).env real tab N (n0 + 8)) N Tryz.f57 α [.ro (.recd (.cons (.int .i64) (.cons (.int .i64) (.cons (.int .i64) .nil)))) l, .int .i64 t] k = rsrT l t N k := by kernel_rfl
theorem rstr_nil (N n0 : Nat) (α : Type) (t : Int) (k : AOut → Option α) : evFn real tab ((twY fnRa spL).env real tab (N + 1) (n0 + 8)) (N + 1) Tryz.f57 α [.nils, .int .i64 t] k = k (i1 0) := by kernel_rfl
theorem rsrT_fin {α : Type} (l : List BrI) (t : Int) (hl : l.length ≤ maxLen) (k : AOut → Option α) : rsrT l t (l.length + 1) k = k (i1 (strN l t)) := by
  unfold rsrT
  refine (count_loop (fun i : Nat => (strN (l.take i) t, (i : Int), PUnit.unit)) l.length (b := 0) (y := (strN (l.take l.length) t, (l.length : Int), PUnit.unit)) (fun i hi => ?_) ?_ (Nat.lt_succ_self _)).trans ?_
  · simp only [lt_len hi, cond_true]
    rw [if_pos (in_len hi), if_pos (in_len hi), if_pos (in_len hi), wrap_next hi hl, Int.toNat_natCast, str_next l t hi]
    have e : decide ((l.getD i brD).2.1 > t) = decide (t < (l.getD i brD).2.1) := rfl
    rw [e]
    unfold strF
    cases decide ((l.getD i brD).1 ≤ t)
    · rfl
    cases decide (t < (l.getD i brD).2.1) <;> rfl
  · simp only [not_lt_len, cond_false]
  · rw [List.take_length]; rfl
noncomputable def rstrS : Fsp := fun _ args k => match args with
  | [.ro (.recd (.cons (.int .i64) (.cons (.int .i64) (.cons (.int .i64) .nil)))) l, .int .i64 t] => k (i1 (strN l t))
  | [.nils, .int .i64 t] => k (i1 0)
  | _ => none
theorem rstrS_ok : FspOk Tryz.prog 57 rstrS := tower_Y fnRa_ok spL_ok ⟨Tryz.func57, fun _ _ => by kernel_rfl⟩ (by intro α args k; unfold rstrS; split <;> rfl) fun args out hSm hEq => by
  unfold rstrS at hEq
  split at hEq
  · rename_i l t
    exact ⟨l.length + 1, 8, (rstr_text (l.length + 1) 0 AOut l t some).trans ((rsrT_fin l t (hSm _ (by simp)).len some).trans hEq)⟩
  · rename_i t
    exact ⟨1, 8, (rstr_nil 0 0 AOut t some).trans hEq⟩
  · cases hEq
/-! A tick of the reference. -/
abbrev mvR (ax ay vx vy sp e : Int) : AOut := .ret (.tup [.agg [iN ax, iN ay, iN vx, iN vy, iN sp], iN e])
noncomputable def rnx3 {α : Type} (ax ay sp VX VY : Int) (k : AOut → Option α) : Option α :=
  bif !movB (IntKind.i64.wrap (ax + VX)) (IntKind.i64.wrap (ay + VY)) VX VY sp then k (mvR 0 0 0 0 0 4) else k (mvR (IntKind.i64.wrap (ax + VX)) (IntKind.i64.wrap (ay + VY)) VX VY sp 0)
noncomputable def rnx2 {α : Type} (ax ay vx vy sp ux uy lx ly B A : Int) (k : AOut → Option α) : Option α :=
  rnx3 ax ay sp (IntKind.i64.wrap (IntKind.i64.wrap (vx - twoV (mulE ux B 0) (mulE uy B 0) (mulV ux B 0)) + twoV (mulE lx A 0) (mulE ly A 0) (mulV lx A 0)))
    (IntKind.i64.wrap (IntKind.i64.wrap (vy - twoV (mulE ux B 0) (mulE uy B 0) (mulV uy B 0)) + twoV (mulE lx A 0) (mulE ly A 0) (mulV ly A 0))) k
noncomputable def rnx1 {α : Type} (ax ay vx vy sp sl bd u : Int) (k : AOut → Option α) : Option α :=
  bif decide (lenV vx vy 1 ≤ scV sl (IntKind.i64.wrap (5000 - u)) 5000 3) then k (mvR ax ay 0 0 0 0)
  else rnx2 ax ay vx vy sp (uniV vx vy vx) (uniV vx vy vy) (lefX (uniV vx vy vx) (uniV vx vy vy)) (lefY (uniV vx vy vx) (uniV vx vy vy)) (scV sl (IntKind.i64.wrap (5000 - u)) 5000 3) (mulV (scV sl (IntKind.i64.wrap (5000 - u)) 5000 3) (scV (scV bd (IntKind.i64.wrap (2000 - u)) 2000 3) sp 1000 0) 0) k
set_option maxRecDepth 100000 in
theorem rnxt_text (N n0 : Nat) (α : Type) (cx cy sd w h : Int) (pb po : List Int) (fl ke sw be we : Int) (ax ay vx vy sp : Int) (u : Int) (k : AOut → Option α) : evFn real tab ((twY fnRa spL).env real tab N (n0 + 8)) N Tryz.f59 α [.agg [.int .i64 cx, .int .i64 cy, .int .i64 sd, .int .i64 w, .int .i64 h, .ro (.int .i64) pb, .ro (.int .i64) po], .agg [.int .i64 fl, .int .i64 ke, .int .i64 sw, .int .i64 be, .int .i64 we], .agg [.int .i64 ax, .int .i64 ay, .int .i64 vx, .int .i64 vy, .int .i64 sp], .int .i64 u] k = rnx1 ax ay vx vy sp (slwV cx cy sd w h pb po fl ke sw be we ax ay) (bdvV cx cy sd w h pb po fl ke sw be we ax ay) u k := by kernel_rfl
theorem rnx_fin {α : Type} {sl bd ax ay vx vy sp n : Int} (h : TkOk sl bd ax ay vx vy sp n) (k : AOut → Option α) : rnx1 ax ay vx vy sp sl bd n k = k (tkO true sl bd ax ay vx vy sp n) := by
  have g := tk_is h
  have h1 := h.n
  obtain ⟨l1, l2, l3, l4⟩ := len_down h.vx h.vy
  unfold rnx1
  rw [i64_in (5000 - n) (by omega), i64_in (2000 - n) (by omega), (sc_near h.sl (n := 5000 - n) (d := 5000) ⟨by omega, by omega⟩ ⟨by omega, by omega⟩).1, (sc_near h.bd (n := 2000 - n) (d := 2000) ⟨by omega, by omega⟩ ⟨by omega, by omega⟩).1, sc_spin g.b1 h.sp]
  show (bif tkR sl vx vy n then _ else rnx2 ax ay vx vy sp _ _ _ _ (tkB sl n) (mulV (tkB sl n) (tkC bd n sp) 0) k) = _
  unfold tkO tsA tsB tsC tsD tsE tsZ tkStep
  cases hr : tkR sl vx vy n
  · have hr' : ¬ lenV vx vy 1 ≤ tkB sl n := of_decide_eq_false hr
    have d := dir_of (ok_le h.vx (by omega)) (ok_le h.vy (by omega)) (fun hz => hr' (by rw [l4 hz]; exact g.b.1))
    have dx := d.ux; have dy := d.uy; have gb := g.b; have ga := g.a; have gc := g.c
    have px := h.px; have py := h.py; have hvx := h.vx; have hvy := h.vy
    have cb := cut_in d.ux (b := tkB sl n) (B := 65536) ⟨by omega, by omega⟩
    have cc := cut_in d.uy (b := tkB sl n) (B := 65536) ⟨by omega, by omega⟩
    have ca := cut_in (a := -uniV vx vy vy) ⟨by omega, by omega⟩ ga
    have cd := cut_in d.ux ga
    obtain ⟨t1, t2⟩ := ml_cut (a := uniV vx vy vx) (b := tkB sl n) ⟨by omega, by omega⟩ ⟨by omega, by omega⟩
    obtain ⟨t3, t4⟩ := ml_cut (a := uniV vx vy vy) (b := tkB sl n) ⟨by omega, by omega⟩ ⟨by omega, by omega⟩
    obtain ⟨m1, m2⟩ := ml_cut (a := tkB sl n) (b := tkC bd n sp) ⟨by omega, by omega⟩ ⟨by omega, by omega⟩
    obtain ⟨s1, s2⟩ := ml_cut (a := -uniV vx vy vy) (b := cutP (tkB sl n) (tkC bd n sp)) ⟨by omega, by omega⟩ ⟨by omega, by omega⟩
    obtain ⟨s3, s4⟩ := ml_cut (a := uniV vx vy vx) (b := cutP (tkB sl n) (tkC bd n sp)) ⟨by omega, by omega⟩ ⟨by omega, by omega⟩
    have o1 : okB (uniV vx vy vx) = true := ok_le d.ux (by omega)
    have o2 : okB (uniV vx vy vy) = true := ok_le d.uy (by omega)
    have hlx : lefX (uniV vx vy vx) (uniV vx vy vy) = -uniV vx vy vy := by
      unfold lefX
      rw [o1, o2, i64_in (0 - uniV vx vy vy) (by omega)]
      simp only [Bool.and_self, cond_true]; omega
    have hly : lefY (uniV vx vy vx) (uniV vx vy vy) = uniV vx vy vx := by
      unfold lefY
      rw [o1, o2]; rfl
    have vX : -65667072 ≤ tkVX sl bd vx vy sp n ∧ tkVX sl bd vx vy sp n ≤ 65667072 := by unfold tkVX; omega
    have vY : -65667072 ≤ tkVY sl bd vx vy sp n ∧ tkVY sl bd vx vy sp n ≤ 65667072 := by unfold tkVY; omega
    unfold rnx2
    rw [hlx, hly, m2, t1, t2, t3, t4, s1, s2, s3, s4]
    show rnx3 ax ay sp (IntKind.i64.wrap (IntKind.i64.wrap (vx - cutP (uniV vx vy vx) (tkB sl n)) + cutP (-uniV vx vy vy) (cutP (tkB sl n) (tkC bd n sp)))) (IntKind.i64.wrap (IntKind.i64.wrap (vy - cutP (uniV vx vy vy) (tkB sl n)) + cutP (uniV vx vy vx) (cutP (tkB sl n) (tkC bd n sp)))) k = _
    rw [i64_in (vx - cutP (uniV vx vy vx) (tkB sl n)) (by omega), i64_in (vy - cutP (uniV vx vy vy) (tkB sl n)) (by omega), i64_in (_ + _) (by omega), i64_in (_ + _) (by omega)]
    show rnx3 ax ay sp (tkVX sl bd vx vy sp n) (tkVY sl bd vx vy sp n) k = _
    unfold rnx3 tkM
    rw [i64_in (ax + tkVX sl bd vx vy sp n) (by omega), i64_in (ay + tkVY sl bd vx vy sp n) (by omega)]
    cases movB (ax + tkVX sl bd vx vy sp n) (ay + tkVY sl bd vx vy sp n) (tkVX sl bd vx vy sp n) (tkVY sl bd vx vy sp n) sp <;> rfl
  · rfl
--FIN rnxt | besom/besomref04.Next | $ICB $GB $MB (u : Int) | $ICE, $GR, $MO, .int .i64 u | tkO true (slwV $ICV $GV ax ay) (bdvV $ICV $GV ax ay) $MV u | rgtB $ICV $GV $MV u
theorem rnxt_fin (cx cy sd w h : Int) (pb po : List Int) (fl ke sw be we : Int) (ax ay vx vy sp : Int) (u : Int) (hs : ∀ qSm ∈ ([.agg [.int .i64 cx, .int .i64 cy, .int .i64 sd, .int .i64 w, .int .i64 h, .ro (.int .i64) pb, .ro (.int .i64) po], .agg [.int .i64 fl, .int .i64 ke, .int .i64 sw, .int .i64 be, .int .i64 we], .agg [.int .i64 ax, .int .i64 ay, .int .i64 vx, .int .i64 vy, .int .i64 sp], .int .i64 u] : List AVal), Sm qSm) (hCo : (rgtB cx cy sd w h pb po fl ke sw be we ax ay vx vy sp u) = true) : ∃ N n, ∀ α (k : AOut → Option α), evFn real tab ((twY fnRa spL).env real tab N n) N Tryz.f59 α [.agg [.int .i64 cx, .int .i64 cy, .int .i64 sd, .int .i64 w, .int .i64 h, .ro (.int .i64) pb, .ro (.int .i64) po], .agg [.int .i64 fl, .int .i64 ke, .int .i64 sw, .int .i64 be, .int .i64 we], .agg [.int .i64 ax, .int .i64 ay, .int .i64 vx, .int .i64 vy, .int .i64 sp], .int .i64 u] k = k (tkO true (slwV cx cy sd w h pb po fl ke sw be we ax ay) (bdvV cx cy sd w h pb po fl ke sw be we ax ay) ax ay vx vy sp u) := by
  exact ⟨8, 8, fun α k => (rnxt_text 8 0 α cx cy sd w h pb po fl ke sw be we ax ay vx vy sp u k).trans (rnx_fin (rgt_ok _ _ _ _ _ _ _ _ _ _ _ _ _ _ _ _ _ _ hCo).1 k)⟩
--CON rnxt
noncomputable def rnxtS : Fsp := fun _ args k => match args with
  | [.agg [.int .i64 cx, .int .i64 cy, .int .i64 sd, .int .i64 w, .int .i64 h, .ro (.int .i64) pb, .ro (.int .i64) po], .agg [.int .i64 fl, .int .i64 ke, .int .i64 sw, .int .i64 be, .int .i64 we], .agg [.int .i64 ax, .int .i64 ay, .int .i64 vx, .int .i64 vy, .int .i64 sp], .int .i64 u] => bif rgtB cx cy sd w h pb po fl ke sw be we ax ay vx vy sp u then (k (tkO true (slwV cx cy sd w h pb po fl ke sw be we ax ay) (bdvV cx cy sd w h pb po fl ke sw be we ax ay) ax ay vx vy sp u)) else none
  | _ => none
theorem rnxtS_ok : FspOk Tryz.prog 59 rnxtS := tower_Y fnRa_ok spL_ok ⟨Tryz.func59, fun _ _ => by kernel_rfl⟩ (by intro α args k; unfold rnxtS; split <;> simp only [cond_bind, Option.bind_some, Option.bind_none]) fun args out hSm hEq => by
  unfold rnxtS at hEq
  split at hEq
  · rename_i cx cy sd w h pb po fl ke sw be we ax ay vx vy sp u
    cases hc : rgtB cx cy sd w h pb po fl ke sw be we ax ay vx vy sp u
    · rw [hc] at hEq; cases hEq
    · rw [hc] at hEq
      obtain ⟨N, n, e⟩ := rnxt_fin cx cy sd w h pb po fl ke sw be we ax ay vx vy sp u hSm hc
      exact ⟨N, n, (e AOut some).trans hEq⟩
  · cases hEq
--END
--FS fnRb | fnRa | rbrs=besom/besomref04.Brooms;rstr=besom/besomref04.strength;rnxt
noncomputable def fnRb : FuncId → Option Fsp := fun g =>
  if g = 55 then some rbrsS else
  if g = 57 then some rstrS else
  if g = 59 then some rnxtS else
  fnRa g
theorem fnRb_ok : FsOk fnRb :=
  fs_cons rbrsS_ok <|
  fs_cons rstrS_ok <|
  fs_cons rnxtS_ok <|
  fnRa_ok
--END
--AT fnRb spL twY
--TEXT rStr | twY fnRb spL | 8 | besom/besomref04.Strength | (l : List BrI) (t : Int) | .ro $BSH l, .int .i64 t
--KEY 37acb7737e
set_option maxRecDepth 100000 in
theorem rStr_text (N n0 : Nat) (α : Type) (l : List BrI) (t : Int) (k : AOut → Option α) : evFn real tab ((twY fnRb spL).env real tab N (n0 + 8)) N Tryz.f21 α [.ro (.recd (.cons (.int .i64) (.cons (.int .i64) (.cons (.int .i64) .nil)))) l, .int .i64 t] k =
  bif !brsB l then k (AOut.ret (AVal.tup [AVal.int IntKind.i64 0, AVal.int IntKind.i64 2]))
  else
    bif decide (0 ≤ t) then
      bif !decide (t ≤ 6000) then k (AOut.ret (AVal.tup [AVal.int IntKind.i64 0, AVal.int IntKind.i64 2]))
      else k (AOut.ret (AVal.tup [AVal.int IntKind.i64 (strN l t), AVal.int IntKind.i64 0]))
    else k (AOut.ret (AVal.tup [AVal.int IntKind.i64 0, AVal.int IntKind.i64 2])) := by kernel_rfl
--END
--END
--TEXT rTick | twY fnRb spL | 8 | besom/besomref04.Tick | $ICB $GB $MB (u : Int) | $ICE, $GR, $MO, .int .i64 u
--KEY 90b6298b54
set_option maxRecDepth 100000 in
theorem rTick_text (N n0 : Nat) (α : Type) (cx cy sd w h : Int) (pb po : List Int) (fl ke sw be we : Int) (ax ay vx vy sp : Int) (u : Int) (k : AOut → Option α) : evFn real tab ((twY fnRb spL).env real tab N (n0 + 8)) N Tryz.f22 α [.agg [.int .i64 cx, .int .i64 cy, .int .i64 sd, .int .i64 w, .int .i64 h, .ro (.int .i64) pb, .ro (.int .i64) po], .agg [.int .i64 fl, .int .i64 ke, .int .i64 sw, .int .i64 be, .int .i64 we], .agg [.int .i64 ax, .int .i64 ay, .int .i64 vx, .int .i64 vy, .int .i64 sp], .int .i64 u] k =
  bif iceB cx cy sd w h pb po then
    bif graB fl ke sw be we then
      bif movB ax ay vx vy sp then
        bif decide (0 ≤ u) then
          bif !decide (u ≤ 1000) then
            k
              (AOut.ret
                (AVal.tup
                  [AVal.agg
                      [AVal.int IntKind.i64 0, AVal.int IntKind.i64 0, AVal.int IntKind.i64 0, AVal.int IntKind.i64 0,
                        AVal.int IntKind.i64 0],
                    AVal.int IntKind.i64 2]))
          else
            bif rgtB cx cy sd w h pb po fl ke sw be we ax ay vx vy sp u then
              k
                (AOut.ret
                  (AVal.tup
                    [AVal.agg
                        [AVal.int IntKind.i64
                            (tsA true (slwV cx cy sd w h pb po fl ke sw be we ax ay)
                              (bdvV cx cy sd w h pb po fl ke sw be we ax ay) ax ay vx vy sp u),
                          AVal.int IntKind.i64
                            (tsB true (slwV cx cy sd w h pb po fl ke sw be we ax ay)
                              (bdvV cx cy sd w h pb po fl ke sw be we ax ay) ax ay vx vy sp u),
                          AVal.int IntKind.i64
                            (tsC true (slwV cx cy sd w h pb po fl ke sw be we ax ay)
                              (bdvV cx cy sd w h pb po fl ke sw be we ax ay) ax ay vx vy sp u),
                          AVal.int IntKind.i64
                            (tsD true (slwV cx cy sd w h pb po fl ke sw be we ax ay)
                              (bdvV cx cy sd w h pb po fl ke sw be we ax ay) ax ay vx vy sp u),
                          AVal.int IntKind.i64
                            (tsE true (slwV cx cy sd w h pb po fl ke sw be we ax ay)
                              (bdvV cx cy sd w h pb po fl ke sw be we ax ay) ax ay vx vy sp u)],
                      AVal.int IntKind.i64
                        (tsZ true (slwV cx cy sd w h pb po fl ke sw be we ax ay)
                          (bdvV cx cy sd w h pb po fl ke sw be we ax ay) ax ay vx vy sp u)]))
            else none
        else
          k
            (AOut.ret
              (AVal.tup
                [AVal.agg
                    [AVal.int IntKind.i64 0, AVal.int IntKind.i64 0, AVal.int IntKind.i64 0, AVal.int IntKind.i64 0,
                      AVal.int IntKind.i64 0],
                  AVal.int IntKind.i64 2]))
      else
        k
          (AOut.ret
            (AVal.tup
              [AVal.agg
                  [AVal.int IntKind.i64 0, AVal.int IntKind.i64 0, AVal.int IntKind.i64 0, AVal.int IntKind.i64 0,
                    AVal.int IntKind.i64 0],
                AVal.int IntKind.i64 2]))
    else
      k
        (AOut.ret
          (AVal.tup
            [AVal.agg
                [AVal.int IntKind.i64 0, AVal.int IntKind.i64 0, AVal.int IntKind.i64 0, AVal.int IntKind.i64 0,
                  AVal.int IntKind.i64 0],
              AVal.int IntKind.i64 2]))
  else
    k
      (AOut.ret
        (AVal.tup
          [AVal.agg
              [AVal.int IntKind.i64 0, AVal.int IntKind.i64 0, AVal.int IntKind.i64 0, AVal.int IntKind.i64 0,
                AVal.int IntKind.i64 0],
            AVal.int IntKind.i64 2])) := by kernel_rfl
--END
--END
--FIN rStr | besom/besomref04.Strength | (l : List BrI) (t : Int) | .ro $BSH l, .int .i64 t | i2 (selI (brsB l && tckB t) (strN l t)) (er2 (brsB l && tckB t))
theorem rStr_fin (l : List BrI) (t : Int) (hs : ∀ qSm ∈ ([.ro (.recd (.cons (.int .i64) (.cons (.int .i64) (.cons (.int .i64) .nil)))) l, .int .i64 t] : List AVal), Sm qSm) : ∃ N n, ∀ α (k : AOut → Option α), evFn real tab ((twY fnRb spL).env real tab N n) N Tryz.f21 α [.ro (.recd (.cons (.int .i64) (.cons (.int .i64) (.cons (.int .i64) .nil)))) l, .int .i64 t] k = k (i2 (selI (brsB l && tckB t) (strN l t)) (er2 (brsB l && tckB t))) := by
  refine ⟨8, 8, fun α k => (rStr_text 8 0 α l t k).trans ?_⟩
  unfold tckB
  cases brsB l
  · rfl
  cases decide (0 ≤ t)
  · rfl
  cases decide (t ≤ 6000) <;> rfl
--CON rStr
noncomputable def rStrS : Fsp := fun _ args k => match args with
  | [.ro (.recd (.cons (.int .i64) (.cons (.int .i64) (.cons (.int .i64) .nil)))) l, .int .i64 t] => k (i2 (selI (brsB l && tckB t) (strN l t)) (er2 (brsB l && tckB t)))
  | _ => none
theorem rStrS_ok : FspOk Tryz.prog 21 rStrS := tower_Y fnRb_ok spL_ok ⟨Tryz.func21, fun _ _ => by kernel_rfl⟩ (by intro α args k; unfold rStrS; split <;> rfl) fun args out hSm hEq => by
  unfold rStrS at hEq
  split at hEq
  · rename_i l t
    obtain ⟨N, n, e⟩ := rStr_fin l t hSm
    exact ⟨N, n, (e AOut some).trans hEq⟩
  · cases hEq
--END
--FIN rTick | besom/besomref04.Tick | $ICB $GB $MB (u : Int) | $ICE, $GR, $MO, .int .i64 u | tkO (rgtB $ICV $GV $MV u) (slwV $ICV $GV ax ay) (bdvV $ICV $GV ax ay) $MV u
theorem rTick_fin (cx cy sd w h : Int) (pb po : List Int) (fl ke sw be we : Int) (ax ay vx vy sp : Int) (u : Int) (hs : ∀ qSm ∈ ([.agg [.int .i64 cx, .int .i64 cy, .int .i64 sd, .int .i64 w, .int .i64 h, .ro (.int .i64) pb, .ro (.int .i64) po], .agg [.int .i64 fl, .int .i64 ke, .int .i64 sw, .int .i64 be, .int .i64 we], .agg [.int .i64 ax, .int .i64 ay, .int .i64 vx, .int .i64 vy, .int .i64 sp], .int .i64 u] : List AVal), Sm qSm) : ∃ N n, ∀ α (k : AOut → Option α), evFn real tab ((twY fnRb spL).env real tab N n) N Tryz.f22 α [.agg [.int .i64 cx, .int .i64 cy, .int .i64 sd, .int .i64 w, .int .i64 h, .ro (.int .i64) pb, .ro (.int .i64) po], .agg [.int .i64 fl, .int .i64 ke, .int .i64 sw, .int .i64 be, .int .i64 we], .agg [.int .i64 ax, .int .i64 ay, .int .i64 vx, .int .i64 vy, .int .i64 sp], .int .i64 u] k = k (tkO (rgtB cx cy sd w h pb po fl ke sw be we ax ay vx vy sp u) (slwV cx cy sd w h pb po fl ke sw be we ax ay) (bdvV cx cy sd w h pb po fl ke sw be we ax ay) ax ay vx vy sp u) := by
  refine ⟨8, 8, fun α k => (rTick_text 8 0 α cx cy sd w h pb po fl ke sw be we ax ay vx vy sp u k).trans ?_⟩
  unfold tkO tsA tsB tsC tsD tsE tsZ rgtB grnB
  cases iceB cx cy sd w h pb po
  · rfl
  cases graB fl ke sw be we
  · rfl
  cases movB ax ay vx vy sp
  · rfl
  cases decide (0 ≤ u)
  · rfl
  cases decide (u ≤ 1000) <;> rfl
--CON rTick
noncomputable def rTickS : Fsp := fun _ args k => match args with
  | [.agg [.int .i64 cx, .int .i64 cy, .int .i64 sd, .int .i64 w, .int .i64 h, .ro (.int .i64) pb, .ro (.int .i64) po], .agg [.int .i64 fl, .int .i64 ke, .int .i64 sw, .int .i64 be, .int .i64 we], .agg [.int .i64 ax, .int .i64 ay, .int .i64 vx, .int .i64 vy, .int .i64 sp], .int .i64 u] => k (tkO (rgtB cx cy sd w h pb po fl ke sw be we ax ay vx vy sp u) (slwV cx cy sd w h pb po fl ke sw be we ax ay) (bdvV cx cy sd w h pb po fl ke sw be we ax ay) ax ay vx vy sp u)
  | _ => none
theorem rTickS_ok : FspOk Tryz.prog 22 rTickS := tower_Y fnRb_ok spL_ok ⟨Tryz.func22, fun _ _ => by kernel_rfl⟩ (by intro α args k; unfold rTickS; split <;> rfl) fun args out hSm hEq => by
  unfold rTickS at hEq
  split at hEq
  · rename_i cx cy sd w h pb po fl ke sw be we ax ay vx vy sp u
    obtain ⟨N, n, e⟩ := rTick_fin cx cy sd w h pb po fl ke sw be we ax ay vx vy sp u hSm
    exact ⟨N, n, (e AOut some).trans hEq⟩
  · cases hEq
--END
end Go.Proofs.YtgpljldfbhkdlaaGreat

/- The laws of package ice: alive. -/
namespace Go.Proofs.YtgpljldfbhkdlaaGreat
open Go.RowKit

/-! Roots, open to evaluation. -/
def rtUpC (a how : Int) : Bool := if how = 2 then !(rtC a * rtC a == a) else if how = 3 then decide ((2 * rtC a + 1) * (2 * rtC a + 1) ≤ 4 * a) else false
def rtNC (a how : Int) : Int := rtC a + (bif rtUpC a how then 1 else 0)
def rootVC (a how : Int) : Int := bif rootB a how then (bif ngB a then 0 else fxV false (rtNC (a * 65536) how)) else 0
def rootEC (a how : Int) : Int := bif rootB a how then (bif ngB a then 11 else fxE (rtNC (a * 65536) how)) else 2
def frootCS : Fsp := fun _ args k => match args with
  | [.int .i64 x, .int .i64 how] => k (i2 (rootVC x how) (rootEC x how))
  | _ => none
--AT fsIt spL twY
abbrev pondI : AVal := .agg [iN 0, iN 0, iN 10, iN 2, iN 3, .ro (.int .i64) ([100, 200, 300, 400, 500, 600] : List Int), .ro (.int .i64) ([0, 0, 0, 0, 0, 500] : List Int)]
abbrev pondG : AVal := .agg [iN 1000, iN 500, iN 200, iN 100, iN 150]
--CON pond
noncomputable def pondS : Fsp := fun _ args k => match args with
  | [] => k (.ret (.tup [pondI, pondG]))
  | _ => none
--END
--FS fsIa | fsIt | frootC=besom/fixed.Root;pond
noncomputable def fsIa : FuncId → Option Fsp := fun g =>
  fsIt g
theorem fsIa_ok : FsOk fsIa :=
  fsIt_ok
--CON ialive
noncomputable def ialiveS : Fsp := fun _ args k => match args with
  | [] => k (b1 true)
  | _ => none
--END
--FS fsIb | fsIt | ialive
noncomputable def fsIb : FuncId → Option Fsp := fun g =>
  fsIt g
theorem fsIb_ok : FsOk fsIb :=
  fsIt_ok
--END
--AT fsIb spL twY
--TEXT igreat | twY fsIb spL | 8 | besom/besomref03.Great | $ICB (m : Int) | $ICE, $I{m}
--KEY 81c0e39c97
set_option maxRecDepth 100000 in
theorem igreat_text (N n0 : Nat) (α : Type) (cx cy sd w h : Int) (pb po : List Int) (m : Int) (k : AOut → Option α) : evFn real tab ((twY fsIb spL).env real tab N (n0 + 8)) N Tryz.f15 α [.agg [.int .i64 cx, .int .i64 cy, .int .i64 sd, .int .i64 w, .int .i64 h, .ro (.int .i64) pb, .ro (.int .i64) po], .int .i64 m] k =
  bif decide ((↑pb.length : Int) > m) then k (AOut.ret (AVal.bool true))
  else k (AOut.ret (AVal.bool (decide ((↑po.length : Int) > m)))) := by kernel_rfl
--END
end Go.Proofs.YtgpljldfbhkdlaaGreat

/- GlideNames: the examples of the chapter. -/
namespace Go.Proofs.YtgpljldfbhkdlaaGreat
open Go.RowKit

/-! Lengths and units, open to evaluation. -/
def lenVG (x y how : Int) : Int := bif lenB x y how then fxV false (rtNC (sq2 x y) how) else 0
def lenEG (x y how : Int) : Int := bif lenB x y how then fxE (rtNC (sq2 x y) how) else 2
def flenG : Fsp := fun _ args k => match args with
  | [.agg [.int .i64 x, .int .i64 y], .int .i64 how] => k (i2 (lenVG x y how) (lenEG x y how))
  | _ => none
theorem flenG_ok : FspOk Tryz.prog 19 flenG := by
  have e : flenG = flenS := by
    unfold flenG flenS lenVG lenEG rtNC rtUpC lenV lenE rtN rtUp
    rw [rt_C]
    rfl
  rw [e]; exact flenS_ok
def uniVG (x y c : Int) : Int := bif uniB x y then (bif sq2 x y == 0 then 0 else sg (ngB c) (shrC (ab c) (sq2 x y))) else 0
def funiG : Fsp := fun _ args k => match args with
  | [.agg [.int .i64 x, .int .i64 y]] => k (s2 (uniVG x y x) (uniVG x y y) (uniE x y))
  | _ => none
theorem funiG_ok : FspOk Tryz.prog 92 funiG := by
  have h : ∀ x y c, uniV x y c = uniVG x y c := fun x y c => by unfold uniV uniVG; rw [shr_C]
  have e : funiG = uniS := by
    unfold funiG uniS
    simp only [h]
    rfl
  rw [e]; exact uniS_ok
noncomputable def fsGn : FuncId → Option Fsp := fun g =>
  if g = 19 then some flenG else
  if g = 92 then some funiG else
  if g = 91 then some gmusSS else
  if g = 87 then some gmusFS else
  fsI11 g
theorem fsGn_ok : FsOk fsGn :=
  fs_cons flenG_ok <|
  fs_cons funiG_ok <|
  fs_cons gmusSS_ok <|
  fs_cons gmusFS_ok <|
  fsI11_ok
--AT fsGn spG twY
/-- A contract that is the evaluation itself. -/
noncomputable def evY (N n : Nat) (fn : Func) : Fsp := evFn real tab ((twY fsGn spG).env real tab N n) N fn
theorem evY_ok {f : FuncId} {fn : Func} (hf : FnOk Tryz.prog f fn) (N n : Nat) : FspOk Tryz.prog f (evY N n fn) := fn_ok mixedT tabOk (tower_ok mixedT tabOk (twY_ok fsGn_ok spG_ok) N n) N hf.get hf.enter
theorem gbare_text (α : Type) (k : AOut → Option α) : evFn real tab ((twY fsGn spG).env real tab 8 8) 8 Tryz.f35 α [] k = k (.ret (.agg [iN 0, iN 0, iN 6553600000, iN 1, iN 1, .ro (.int .i64) ([0] : List Int), .ro (.int .i64) ([0] : List Int), iN 1000, iN 1000, iN 0, iN 500, iN 10])) := by kernel_rfl
--FIN gbare | besom/besomlaw04.bare |  |  | .ret (.agg [iN 0, iN 0, iN 6553600000, iN 1, iN 1, .ro (.int .i64) ([0] : List Int), .ro (.int .i64) ([0] : List Int), iN 1000, iN 1000, iN 0, iN 500, iN 10])
theorem gbare_fin  (hs : ∀ qSm ∈ ([] : List AVal), Sm qSm) : ∃ N n, ∀ α (k : AOut → Option α), evFn real tab ((twY fsGn spG).env real tab N n) N Tryz.f35 α [] k = k (.ret (.agg [iN 0, iN 0, iN 6553600000, iN 1, iN 1, .ro (.int .i64) ([0] : List Int), .ro (.int .i64) ([0] : List Int), iN 1000, iN 1000, iN 0, iN 500, iN 10])) := by
  exact ⟨8, 8, fun α k => gbare_text α k⟩
--CON gbare
noncomputable def gbareS : Fsp := fun _ args k => match args with
  | [] => k (.ret (.agg [iN 0, iN 0, iN 6553600000, iN 1, iN 1, .ro (.int .i64) ([0] : List Int), .ro (.int .i64) ([0] : List Int), iN 1000, iN 1000, iN 0, iN 500, iN 10]))
  | _ => none
theorem gbareS_ok : FspOk Tryz.prog 35 gbareS := tower_Y fsGn_ok spG_ok ⟨Tryz.func35, fun _ _ => by kernel_rfl⟩ (by intro α args k; unfold gbareS; split <;> rfl) fun args out hSm hEq => by
  unfold gbareS at hEq
  split at hEq
  · skip
    obtain ⟨N, n, e⟩ := gbare_fin  hSm
    exact ⟨N, n, (e AOut some).trans hEq⟩
  · cases hEq
--END
theorem gup_text (α : Type) (v n : Int) (k : AOut → Option α) : evFn real tab ((twY fsGn spG).env real tab 8 8) 8 Tryz.f16 α [.int .i64 v, .int .i64 n] k = k (.ret (.agg [iN 0, iN 0, iN 0, iN v, iN n])) := by kernel_rfl
--FIN gup | besom/besomlaw04.up | (v m : Int) | $I{v}, $I{m} | .ret (.agg [iN 0, iN 0, iN 0, iN v, iN m])
theorem gup_fin (v m : Int) (hs : ∀ qSm ∈ ([.int .i64 v, .int .i64 m] : List AVal), Sm qSm) : ∃ N n, ∀ α (k : AOut → Option α), evFn real tab ((twY fsGn spG).env real tab N n) N Tryz.f16 α [.int .i64 v, .int .i64 m] k = k (.ret (.agg [iN 0, iN 0, iN 0, iN v, iN m])) := by
  exact ⟨8, 8, fun α k => gup_text α v m k⟩
--CON gup
noncomputable def gupS : Fsp := fun _ args k => match args with
  | [.int .i64 v, .int .i64 m] => k (.ret (.agg [iN 0, iN 0, iN 0, iN v, iN m]))
  | _ => none
theorem gupS_ok : FspOk Tryz.prog 16 gupS := tower_Y fsGn_ok spG_ok ⟨Tryz.func16, fun _ _ => by kernel_rfl⟩ (by intro α args k; unfold gupS; split <;> rfl) fun args out hSm hEq => by
  unfold gupS at hEq
  split at hEq
  · rename_i v m
    obtain ⟨N, n, e⟩ := gup_fin v m hSm
    exact ⟨N, n, (e AOut some).trans hEq⟩
  · cases hEq
--END
noncomputable def fsGo : FuncId → Option Fsp := fun g =>
  if g = 35 then some gbareS else
  if g = 16 then some gupS else
  if g = 18 then some (evY 110 20 Tryz.f18) else
  if g = 14 then some (evY 110 20 Tryz.f14) else
  if g = 29 then some (evY 110 20 Tryz.f29) else
  if g = 32 then some (evY 310 20 Tryz.f32) else
  if g = 20 then some (evY 110 20 Tryz.f20) else
  if g = 25 then some (evY 110 20 Tryz.f25) else
  fsGn g
theorem fsGo_ok : FsOk fsGo :=
  fs_cons gbareS_ok <|
  fs_cons gupS_ok <|
  fs_cons (evY_ok ⟨Tryz.func18, fun _ _ => by kernel_rfl⟩ 110 20) <|
  fs_cons (evY_ok ⟨Tryz.func14, fun _ _ => by kernel_rfl⟩ 110 20) <|
  fs_cons (evY_ok ⟨Tryz.func29, fun _ _ => by kernel_rfl⟩ 110 20) <|
  fs_cons (evY_ok ⟨Tryz.func32, fun _ _ => by kernel_rfl⟩ 310 20) <|
  fs_cons (evY_ok ⟨Tryz.func20, fun _ _ => by kernel_rfl⟩ 110 20) <|
  fs_cons (evY_ok ⟨Tryz.func25, fun _ _ => by kernel_rfl⟩ 110 20) <|
  fsGn_ok
--AT fsGo spG twY
set_option maxRecDepth 100000 in
theorem galive_text (α : Type) (k : AOut → Option α) : evFn real tab ((twY fsGo spG).env real tab 110 20) 110 Tryz.f12 α [] k = k (b1 true) := by kernel_rfl
--FIN galive | besom/besomlaw04.alive |  |  | b1 true
theorem galive_fin  (hs : ∀ qSm ∈ ([] : List AVal), Sm qSm) : ∃ N n, ∀ α (k : AOut → Option α), evFn real tab ((twY fsGo spG).env real tab N n) N Tryz.f12 α [] k = k (b1 true) := by
  exact ⟨110, 20, fun α k => galive_text α k⟩
--CON galive
noncomputable def galiveS : Fsp := fun _ args k => match args with
  | [] => k (b1 true)
  | _ => none
theorem galiveS_ok : FspOk Tryz.prog 12 galiveS := tower_Y fsGo_ok spG_ok ⟨Tryz.func12, fun _ _ => by kernel_rfl⟩ (by intro α args k; unfold galiveS; split <;> rfl) fun args out hSm hEq => by
  unfold galiveS at hEq
  split at hEq
  · skip
    obtain ⟨N, n, e⟩ := galive_fin  hSm
    exact ⟨N, n, (e AOut some).trans hEq⟩
  · cases hEq
--END
noncomputable def fsGp : FuncId → Option Fsp := fun g =>
  if g = 12 then some galiveS else
  if g = 31 then some (evY 110 20 Tryz.f31) else
  if g = 36 then some (evY 110 20 Tryz.f36) else
  fsGo g
theorem fsGp_ok : FsOk fsGp :=
  fs_cons galiveS_ok <|
  fs_cons (evY_ok ⟨Tryz.func31, fun _ _ => by kernel_rfl⟩ 110 20) <|
  fs_cons (evY_ok ⟨Tryz.func36, fun _ _ => by kernel_rfl⟩ 110 20) <|
  fsGo_ok
set_option maxRecDepth 100000 in
theorem gnames_text : evFn real tab ((twY fsGp spG).env real tab 110 20) 110 Tryz.f11 AOut [] some = some (b1 true) := by kernel_rfl
def gnamesF : List AVal → Option AOut
  | [] => some (b1 true)
  | _ => none
theorem gnames_ok : FspOk Tryz.prog 11 (toFsp gnamesF) := tower_Y fsGp_ok spG_ok ⟨Tryz.func11, fun _ _ => by kernel_rfl⟩ (toFsp_nat _) fun args out hSm hq => by
  replace hq := toFsp_some hq
  unfold gnamesF at hq
  split at hq
  · cases hq
    exact ⟨110, 20, gnames_text⟩
  · cases hq
end Go.Proofs.YtgpljldfbhkdlaaGreat

/- GlideTicks: it answers true. -/
namespace Go.Proofs.YtgpljldfbhkdlaaGreat
open Go.RowKit

--FS fsGt | fsG6 | galive=besom/besomlaw04.alive;rTick=besom/besomref04.Tick;rStr=besom/besomref04.Strength;rmov=besom/besomref04.Moving;rbrs=besom/besomref04.Brooms
noncomputable def fsGt : FuncId → Option Fsp := fun g =>
  if g = 12 then some galiveS else
  if g = 22 then some rTickS else
  if g = 21 then some rStrS else
  if g = 62 then some rmovS else
  if g = 55 then some rbrsS else
  fsG6 g
theorem fsGt_ok : FsOk fsGt :=
  fs_cons galiveS_ok <|
  fs_cons rTickS_ok <|
  fs_cons rStrS_ok <|
  fs_cons rmovS_ok <|
  fs_cons rbrsS_ok <|
  fsG6_ok
--END
--AT fsGt spL twV
--TEXT gticks | twV fsGt spL | 8 | besom/besomlaw04.GlideTicks | $ICB $GB $MB (l : List BrI) (t u : Int) | $SH, $MO, .ro $BSH l, .int .i64 t, .int .i64 u
--KEY 1196af8fdc
set_option maxRecDepth 100000 in
theorem gticks_text (N n0 : Nat) (α : Type) (cx cy sd w h : Int) (pb po : List Int) (fl ke sw be we : Int) (ax ay vx vy sp : Int) (l : List BrI) (t u : Int) (k : AOut → Option α) : evFn real tab ((twV fsGt spL).env real tab N (n0 + 8)) N Tryz.f8 α [.agg [.int .i64 cx, .int .i64 cy, .int .i64 sd, .int .i64 w, .int .i64 h, .ro (.int .i64) pb, .ro (.int .i64) po, .int .i64 fl, .int .i64 ke, .int .i64 sw, .int .i64 be, .int .i64 we], .agg [.int .i64 ax, .int .i64 ay, .int .i64 vx, .int .i64 vy, .int .i64 sp], .ro (.recd (.cons (.int .i64) (.cons (.int .i64) (.cons (.int .i64) .nil)))) l, .int .i64 t, .int .i64 u] k =
  bif decide ((↑pb.length : Int) > 400) then k (AOut.ret (AVal.bool true))
  else
    bif decide ((↑po.length : Int) > 400) then k (AOut.ret (AVal.bool true))
    else
      bif decide ((↑l.length : Int) > 66) then k (AOut.ret (AVal.bool true))
      else
        bif movB ax ay vx vy sp then
          bif er2 (movB ax ay vx vy sp) == 0 then
            bif brsB l then
              bif er2 (brsB l) == 0 then
                bif selI (brsB l && tckB t) (strN l t) == selI (brsB l && tckB t) (strN l t) then
                  bif er2 (brsB l && tckB t) == er2 (brsB l && tckB t) then
                    bif
                        tsA (rgtB cx cy sd w h pb po fl ke sw be we ax ay vx vy sp u)
                                (slwV cx cy sd w h pb po fl ke sw be we ax ay)
                                (bdvV cx cy sd w h pb po fl ke sw be we ax ay) ax ay vx vy sp u ==
                              tsA (rgtB cx cy sd w h pb po fl ke sw be we ax ay vx vy sp u)
                                (slwV cx cy sd w h pb po fl ke sw be we ax ay)
                                (bdvV cx cy sd w h pb po fl ke sw be we ax ay) ax ay vx vy sp u &&
                            (tsB (rgtB cx cy sd w h pb po fl ke sw be we ax ay vx vy sp u)
                                  (slwV cx cy sd w h pb po fl ke sw be we ax ay)
                                  (bdvV cx cy sd w h pb po fl ke sw be we ax ay) ax ay vx vy sp u ==
                                tsB (rgtB cx cy sd w h pb po fl ke sw be we ax ay vx vy sp u)
                                  (slwV cx cy sd w h pb po fl ke sw be we ax ay)
                                  (bdvV cx cy sd w h pb po fl ke sw be we ax ay) ax ay vx vy sp u &&
                              true) &&
                          (tsC (rgtB cx cy sd w h pb po fl ke sw be we ax ay vx vy sp u)
                                  (slwV cx cy sd w h pb po fl ke sw be we ax ay)
                                  (bdvV cx cy sd w h pb po fl ke sw be we ax ay) ax ay vx vy sp u ==
                                tsC (rgtB cx cy sd w h pb po fl ke sw be we ax ay vx vy sp u)
                                  (slwV cx cy sd w h pb po fl ke sw be we ax ay)
                                  (bdvV cx cy sd w h pb po fl ke sw be we ax ay) ax ay vx vy sp u &&
                              (tsD (rgtB cx cy sd w h pb po fl ke sw be we ax ay vx vy sp u)
                                    (slwV cx cy sd w h pb po fl ke sw be we ax ay)
                                    (bdvV cx cy sd w h pb po fl ke sw be we ax ay) ax ay vx vy sp u ==
                                  tsD (rgtB cx cy sd w h pb po fl ke sw be we ax ay vx vy sp u)
                                    (slwV cx cy sd w h pb po fl ke sw be we ax ay)
                                    (bdvV cx cy sd w h pb po fl ke sw be we ax ay) ax ay vx vy sp u &&
                                true) &&
                            (tsE (rgtB cx cy sd w h pb po fl ke sw be we ax ay vx vy sp u)
                                  (slwV cx cy sd w h pb po fl ke sw be we ax ay)
                                  (bdvV cx cy sd w h pb po fl ke sw be we ax ay) ax ay vx vy sp u ==
                                tsE (rgtB cx cy sd w h pb po fl ke sw be we ax ay vx vy sp u)
                                  (slwV cx cy sd w h pb po fl ke sw be we ax ay)
                                  (bdvV cx cy sd w h pb po fl ke sw be we ax ay) ax ay vx vy sp u &&
                              true)) then
                      bif
                          tsZ (rgtB cx cy sd w h pb po fl ke sw be we ax ay vx vy sp u)
                              (slwV cx cy sd w h pb po fl ke sw be we ax ay)
                              (bdvV cx cy sd w h pb po fl ke sw be we ax ay) ax ay vx vy sp u ==
                            tsZ (rgtB cx cy sd w h pb po fl ke sw be we ax ay vx vy sp u)
                              (slwV cx cy sd w h pb po fl ke sw be we ax ay)
                              (bdvV cx cy sd w h pb po fl ke sw be we ax ay) ax ay vx vy sp u then
                        k (AOut.ret (AVal.bool true))
                      else k (AOut.ret (AVal.bool false))
                    else k (AOut.ret (AVal.bool false))
                  else k (AOut.ret (AVal.bool false))
                else k (AOut.ret (AVal.bool false))
              else k (AOut.ret (AVal.bool false))
            else
              bif er2 (brsB l) == 2 then
                bif selI (brsB l && tckB t) (strN l t) == selI (brsB l && tckB t) (strN l t) then
                  bif er2 (brsB l && tckB t) == er2 (brsB l && tckB t) then
                    bif
                        tsA (rgtB cx cy sd w h pb po fl ke sw be we ax ay vx vy sp u)
                                (slwV cx cy sd w h pb po fl ke sw be we ax ay)
                                (bdvV cx cy sd w h pb po fl ke sw be we ax ay) ax ay vx vy sp u ==
                              tsA (rgtB cx cy sd w h pb po fl ke sw be we ax ay vx vy sp u)
                                (slwV cx cy sd w h pb po fl ke sw be we ax ay)
                                (bdvV cx cy sd w h pb po fl ke sw be we ax ay) ax ay vx vy sp u &&
                            (tsB (rgtB cx cy sd w h pb po fl ke sw be we ax ay vx vy sp u)
                                  (slwV cx cy sd w h pb po fl ke sw be we ax ay)
                                  (bdvV cx cy sd w h pb po fl ke sw be we ax ay) ax ay vx vy sp u ==
                                tsB (rgtB cx cy sd w h pb po fl ke sw be we ax ay vx vy sp u)
                                  (slwV cx cy sd w h pb po fl ke sw be we ax ay)
                                  (bdvV cx cy sd w h pb po fl ke sw be we ax ay) ax ay vx vy sp u &&
                              true) &&
                          (tsC (rgtB cx cy sd w h pb po fl ke sw be we ax ay vx vy sp u)
                                  (slwV cx cy sd w h pb po fl ke sw be we ax ay)
                                  (bdvV cx cy sd w h pb po fl ke sw be we ax ay) ax ay vx vy sp u ==
                                tsC (rgtB cx cy sd w h pb po fl ke sw be we ax ay vx vy sp u)
                                  (slwV cx cy sd w h pb po fl ke sw be we ax ay)
                                  (bdvV cx cy sd w h pb po fl ke sw be we ax ay) ax ay vx vy sp u &&
                              (tsD (rgtB cx cy sd w h pb po fl ke sw be we ax ay vx vy sp u)
                                    (slwV cx cy sd w h pb po fl ke sw be we ax ay)
                                    (bdvV cx cy sd w h pb po fl ke sw be we ax ay) ax ay vx vy sp u ==
                                  tsD (rgtB cx cy sd w h pb po fl ke sw be we ax ay vx vy sp u)
                                    (slwV cx cy sd w h pb po fl ke sw be we ax ay)
                                    (bdvV cx cy sd w h pb po fl ke sw be we ax ay) ax ay vx vy sp u &&
                                true) &&
                            (tsE (rgtB cx cy sd w h pb po fl ke sw be we ax ay vx vy sp u)
                                  (slwV cx cy sd w h pb po fl ke sw be we ax ay)
                                  (bdvV cx cy sd w h pb po fl ke sw be we ax ay) ax ay vx vy sp u ==
                                tsE (rgtB cx cy sd w h pb po fl ke sw be we ax ay vx vy sp u)
                                  (slwV cx cy sd w h pb po fl ke sw be we ax ay)
                                  (bdvV cx cy sd w h pb po fl ke sw be we ax ay) ax ay vx vy sp u &&
                              true)) then
                      bif
                          tsZ (rgtB cx cy sd w h pb po fl ke sw be we ax ay vx vy sp u)
                              (slwV cx cy sd w h pb po fl ke sw be we ax ay)
                              (bdvV cx cy sd w h pb po fl ke sw be we ax ay) ax ay vx vy sp u ==
                            tsZ (rgtB cx cy sd w h pb po fl ke sw be we ax ay vx vy sp u)
                              (slwV cx cy sd w h pb po fl ke sw be we ax ay)
                              (bdvV cx cy sd w h pb po fl ke sw be we ax ay) ax ay vx vy sp u then
                        k (AOut.ret (AVal.bool true))
                      else k (AOut.ret (AVal.bool false))
                    else k (AOut.ret (AVal.bool false))
                  else k (AOut.ret (AVal.bool false))
                else k (AOut.ret (AVal.bool false))
              else k (AOut.ret (AVal.bool false))
          else k (AOut.ret (AVal.bool false))
        else
          bif er2 (movB ax ay vx vy sp) == 2 then
            bif brsB l then
              bif er2 (brsB l) == 0 then
                bif selI (brsB l && tckB t) (strN l t) == selI (brsB l && tckB t) (strN l t) then
                  bif er2 (brsB l && tckB t) == er2 (brsB l && tckB t) then
                    bif
                        tsA (rgtB cx cy sd w h pb po fl ke sw be we ax ay vx vy sp u)
                                (slwV cx cy sd w h pb po fl ke sw be we ax ay)
                                (bdvV cx cy sd w h pb po fl ke sw be we ax ay) ax ay vx vy sp u ==
                              tsA (rgtB cx cy sd w h pb po fl ke sw be we ax ay vx vy sp u)
                                (slwV cx cy sd w h pb po fl ke sw be we ax ay)
                                (bdvV cx cy sd w h pb po fl ke sw be we ax ay) ax ay vx vy sp u &&
                            (tsB (rgtB cx cy sd w h pb po fl ke sw be we ax ay vx vy sp u)
                                  (slwV cx cy sd w h pb po fl ke sw be we ax ay)
                                  (bdvV cx cy sd w h pb po fl ke sw be we ax ay) ax ay vx vy sp u ==
                                tsB (rgtB cx cy sd w h pb po fl ke sw be we ax ay vx vy sp u)
                                  (slwV cx cy sd w h pb po fl ke sw be we ax ay)
                                  (bdvV cx cy sd w h pb po fl ke sw be we ax ay) ax ay vx vy sp u &&
                              true) &&
                          (tsC (rgtB cx cy sd w h pb po fl ke sw be we ax ay vx vy sp u)
                                  (slwV cx cy sd w h pb po fl ke sw be we ax ay)
                                  (bdvV cx cy sd w h pb po fl ke sw be we ax ay) ax ay vx vy sp u ==
                                tsC (rgtB cx cy sd w h pb po fl ke sw be we ax ay vx vy sp u)
                                  (slwV cx cy sd w h pb po fl ke sw be we ax ay)
                                  (bdvV cx cy sd w h pb po fl ke sw be we ax ay) ax ay vx vy sp u &&
                              (tsD (rgtB cx cy sd w h pb po fl ke sw be we ax ay vx vy sp u)
                                    (slwV cx cy sd w h pb po fl ke sw be we ax ay)
                                    (bdvV cx cy sd w h pb po fl ke sw be we ax ay) ax ay vx vy sp u ==
                                  tsD (rgtB cx cy sd w h pb po fl ke sw be we ax ay vx vy sp u)
                                    (slwV cx cy sd w h pb po fl ke sw be we ax ay)
                                    (bdvV cx cy sd w h pb po fl ke sw be we ax ay) ax ay vx vy sp u &&
                                true) &&
                            (tsE (rgtB cx cy sd w h pb po fl ke sw be we ax ay vx vy sp u)
                                  (slwV cx cy sd w h pb po fl ke sw be we ax ay)
                                  (bdvV cx cy sd w h pb po fl ke sw be we ax ay) ax ay vx vy sp u ==
                                tsE (rgtB cx cy sd w h pb po fl ke sw be we ax ay vx vy sp u)
                                  (slwV cx cy sd w h pb po fl ke sw be we ax ay)
                                  (bdvV cx cy sd w h pb po fl ke sw be we ax ay) ax ay vx vy sp u &&
                              true)) then
                      bif
                          tsZ (rgtB cx cy sd w h pb po fl ke sw be we ax ay vx vy sp u)
                              (slwV cx cy sd w h pb po fl ke sw be we ax ay)
                              (bdvV cx cy sd w h pb po fl ke sw be we ax ay) ax ay vx vy sp u ==
                            tsZ (rgtB cx cy sd w h pb po fl ke sw be we ax ay vx vy sp u)
                              (slwV cx cy sd w h pb po fl ke sw be we ax ay)
                              (bdvV cx cy sd w h pb po fl ke sw be we ax ay) ax ay vx vy sp u then
                        k (AOut.ret (AVal.bool true))
                      else k (AOut.ret (AVal.bool false))
                    else k (AOut.ret (AVal.bool false))
                  else k (AOut.ret (AVal.bool false))
                else k (AOut.ret (AVal.bool false))
              else k (AOut.ret (AVal.bool false))
            else
              bif er2 (brsB l) == 2 then
                bif selI (brsB l && tckB t) (strN l t) == selI (brsB l && tckB t) (strN l t) then
                  bif er2 (brsB l && tckB t) == er2 (brsB l && tckB t) then
                    bif
                        tsA (rgtB cx cy sd w h pb po fl ke sw be we ax ay vx vy sp u)
                                (slwV cx cy sd w h pb po fl ke sw be we ax ay)
                                (bdvV cx cy sd w h pb po fl ke sw be we ax ay) ax ay vx vy sp u ==
                              tsA (rgtB cx cy sd w h pb po fl ke sw be we ax ay vx vy sp u)
                                (slwV cx cy sd w h pb po fl ke sw be we ax ay)
                                (bdvV cx cy sd w h pb po fl ke sw be we ax ay) ax ay vx vy sp u &&
                            (tsB (rgtB cx cy sd w h pb po fl ke sw be we ax ay vx vy sp u)
                                  (slwV cx cy sd w h pb po fl ke sw be we ax ay)
                                  (bdvV cx cy sd w h pb po fl ke sw be we ax ay) ax ay vx vy sp u ==
                                tsB (rgtB cx cy sd w h pb po fl ke sw be we ax ay vx vy sp u)
                                  (slwV cx cy sd w h pb po fl ke sw be we ax ay)
                                  (bdvV cx cy sd w h pb po fl ke sw be we ax ay) ax ay vx vy sp u &&
                              true) &&
                          (tsC (rgtB cx cy sd w h pb po fl ke sw be we ax ay vx vy sp u)
                                  (slwV cx cy sd w h pb po fl ke sw be we ax ay)
                                  (bdvV cx cy sd w h pb po fl ke sw be we ax ay) ax ay vx vy sp u ==
                                tsC (rgtB cx cy sd w h pb po fl ke sw be we ax ay vx vy sp u)
                                  (slwV cx cy sd w h pb po fl ke sw be we ax ay)
                                  (bdvV cx cy sd w h pb po fl ke sw be we ax ay) ax ay vx vy sp u &&
                              (tsD (rgtB cx cy sd w h pb po fl ke sw be we ax ay vx vy sp u)
                                    (slwV cx cy sd w h pb po fl ke sw be we ax ay)
                                    (bdvV cx cy sd w h pb po fl ke sw be we ax ay) ax ay vx vy sp u ==
                                  tsD (rgtB cx cy sd w h pb po fl ke sw be we ax ay vx vy sp u)
                                    (slwV cx cy sd w h pb po fl ke sw be we ax ay)
                                    (bdvV cx cy sd w h pb po fl ke sw be we ax ay) ax ay vx vy sp u &&
                                true) &&
                            (tsE (rgtB cx cy sd w h pb po fl ke sw be we ax ay vx vy sp u)
                                  (slwV cx cy sd w h pb po fl ke sw be we ax ay)
                                  (bdvV cx cy sd w h pb po fl ke sw be we ax ay) ax ay vx vy sp u ==
                                tsE (rgtB cx cy sd w h pb po fl ke sw be we ax ay vx vy sp u)
                                  (slwV cx cy sd w h pb po fl ke sw be we ax ay)
                                  (bdvV cx cy sd w h pb po fl ke sw be we ax ay) ax ay vx vy sp u &&
                              true)) then
                      bif
                          tsZ (rgtB cx cy sd w h pb po fl ke sw be we ax ay vx vy sp u)
                              (slwV cx cy sd w h pb po fl ke sw be we ax ay)
                              (bdvV cx cy sd w h pb po fl ke sw be we ax ay) ax ay vx vy sp u ==
                            tsZ (rgtB cx cy sd w h pb po fl ke sw be we ax ay vx vy sp u)
                              (slwV cx cy sd w h pb po fl ke sw be we ax ay)
                              (bdvV cx cy sd w h pb po fl ke sw be we ax ay) ax ay vx vy sp u then
                        k (AOut.ret (AVal.bool true))
                      else k (AOut.ret (AVal.bool false))
                    else k (AOut.ret (AVal.bool false))
                  else k (AOut.ret (AVal.bool false))
                else k (AOut.ret (AVal.bool false))
              else k (AOut.ret (AVal.bool false))
          else k (AOut.ret (AVal.bool false)) := by kernel_rfl
--END
--END
theorem gticks_true (cx cy sd w h : Int) (pb po : List Int) (fl ke sw be we : Int) (ax ay vx vy sp : Int) (l : List BrI) (t u : Int) : evFn real tab ((twV fsGt spL).env real tab 8 8) 8 Tryz.f8 AOut [.agg [.int .i64 cx, .int .i64 cy, .int .i64 sd, .int .i64 w, .int .i64 h, .ro (.int .i64) pb, .ro (.int .i64) po, .int .i64 fl, .int .i64 ke, .int .i64 sw, .int .i64 be, .int .i64 we], .agg [.int .i64 ax, .int .i64 ay, .int .i64 vx, .int .i64 vy, .int .i64 sp], .ro (.recd (.cons (.int .i64) (.cons (.int .i64) (.cons (.int .i64) .nil)))) l, .int .i64 t, .int .i64 u] some = some (b1 true) := by
  refine (gticks_text 8 0 AOut cx cy sd w h pb po fl ke sw be we ax ay vx vy sp l t u some).trans ?_
  by_cases h1 : (pb.length : Int) > 400
  · rw [decide_eq_true h1]; rfl
  by_cases h2 : (po.length : Int) > 400
  · rw [decide_eq_false h1, decide_eq_true h2]; rfl
  by_cases h3 : (l.length : Int) > 66
  · rw [decide_eq_false h1, decide_eq_false h2, decide_eq_true h3]; rfl
  rw [decide_eq_false h1, decide_eq_false h2, decide_eq_false h3, er2_0, er2_0]
  cases movB ax ay vx vy sp <;> cases brsB l <;> simp only [BEq.rfl, Bool.and_self, cond_true, cond_false] <;> rfl
def gticksF : List AVal → Option AOut
  | [.agg [.int .i64 cx, .int .i64 cy, .int .i64 sd, .int .i64 w, .int .i64 h, .ro (.int .i64) pb, .ro (.int .i64) po, .int .i64 fl, .int .i64 ke, .int .i64 sw, .int .i64 be, .int .i64 we], .agg [.int .i64 ax, .int .i64 ay, .int .i64 vx, .int .i64 vy, .int .i64 sp], .ro (.recd (.cons (.int .i64) (.cons (.int .i64) (.cons (.int .i64) .nil)))) l, .int .i64 t, .int .i64 u] => some (b1 true)
  | _ => none
theorem gticks_ok : FspOk Tryz.prog 8 (toFsp gticksF) := tower_V fsGt_ok spL_ok ⟨Tryz.func8, fun _ _ => by kernel_rfl⟩ (toFsp_nat _) fun args out hSm hq => by
  replace hq := toFsp_some hq
  unfold gticksF at hq
  split at hq
  · rename_i cx cy sd w h pb po fl ke sw be we ax ay vx vy sp l t u
    cases hq
    exact ⟨8, 8, gticks_true cx cy sd w h pb po fl ke sw be we ax ay vx vy sp l t u⟩
  · cases hq
end Go.Proofs.YtgpljldfbhkdlaaGreat

/- Glide in plain numbers: no tick makes a stone faster. -/
namespace Go.Proofs.YtgpljldfbhkdlaaGreat

theorem sw_sq (a : Int) : 0 ≤ a * a := by
  rcases Int.le_total 0 a with h | h
  · exact Int.mul_nonneg h h
  · have := Int.mul_nonneg (show 0 ≤ -a by omega) (show 0 ≤ -a by omega)
    rwa [Int.neg_mul_neg] at this
theorem sw_le {p q : Int} (hq : 0 ≤ q) (h : p * p ≤ q * q) : p ≤ q := by
  rcases Int.lt_or_le q p with c | c
  · have h1 : q * q ≤ q * p := Int.mul_le_mul_of_nonneg_left (by omega) hq
    have h2 : q * p < p * p := Int.mul_lt_mul_of_pos_right c (by omega)
    omega
  · exact c
theorem sw_sum {x y U : Int} (h : x*x+y*y ≤ U*U) (h2 : 0 ≤ U) : 2*(x+y) ≤ 3*U := by
  refine sw_le (by omega) ?_
  have := sw_sq (x-y)
  have := sw_sq U
  grind
theorem sw_sum2 {x y U : Int} (h : x*x+y*y ≤ U*U) (h2 : 0 ≤ U) : 4*(x+2*y) ≤ 9*U := by
  refine sw_le (by omega) ?_
  have := sw_sq (2*x-y)
  have := sw_sq U
  grind
/-- What is cut off a number's part. -/
theorem sw_cut {m x U b : Int} (h1 : m * (U - 1) ≤ 65536 * x) (h2 : 65536 * x ≤ (m + 1) * U) (hm : 0 ≤ m ∧ m ≤ 65536) (hb : 0 ≤ b ∧ b ≤ 65536) (hU : b ≤ U - 1) :
    0 ≤ m * b / 65536 ∧ U * (m * b / 65536) ≤ b * x + U ∧ b * x ≤ U * (m * b / 65536) + 2 * U ∧ m * b / 65536 ≤ x := by
  have hmb : 0 ≤ m * b := Int.mul_nonneg hm.1 hb.1
  have e1 := Int.emod_add_mul_ediv (m * b) 65536
  have e2 := Int.emod_nonneg (m * b) (show (65536 : Int) ≠ 0 by omega)
  have e3 := Int.emod_lt_of_pos (m * b) (show (0 : Int) < 65536 by omega)
  have q0 := Int.ediv_nonneg hmb (show (0 : Int) ≤ 65536 by omega)
  generalize hq : m * b / 65536 = q at *
  generalize hr : m * b % 65536 = r at *
  have t1 := Int.mul_le_mul_of_nonneg_left h1 hb.1
  have t2 := Int.mul_le_mul_of_nonneg_left h2 hb.1
  have t3 : m * b ≤ 65536 * b := Int.mul_le_mul_of_nonneg_right hm.2 hb.1
  have t4 : U * r ≤ U * 65536 := Int.mul_le_mul_of_nonneg_left (by omega) (by omega)
  have t5 : 0 ≤ U * r := Int.mul_nonneg (by omega) (by omega)
  have t6 : b * U ≤ 65536 * U := Int.mul_le_mul_of_nonneg_right hb.2 (by omega)
  have t7 : m * b ≤ m * (U - 1) := Int.mul_le_mul_of_nonneg_left hU hm.1
  have e4 : U * r + 65536 * (U * q) = U * (m * b) := by rw [← e1]; grind
  have e5 : b * (m * (U - 1)) = U * (m * b) - m * b := by grind
  have e6 : b * ((m + 1) * U) = U * (m * b) + b * U := by grind
  have e7 : b * (65536 * x) = 65536 * (b * x) := by grind
  refine ⟨q0, ?_, ?_, ?_⟩ <;> omega
theorem sw_tick {x y U b a px py c1 c2 : Int} (hx : 0 ≤ x) (hy : 0 ≤ y) (hs : x*x+y*y ≤ U*U) (hb : 1 ≤ b) (ha : 0 ≤ a ∧ a ≤ b) (hU : b ≤ U)
    (p1 : U * px ≤ x * (U - b) + 2 * U) (p2 : x * (U - b) ≤ U * px + U) (p0 : 0 ≤ px) (q1 : U * py ≤ y * (U - b) + 2 * U) (q2 : y * (U - b) ≤ U * py + U) (q0 : 0 ≤ py)
    (c11 : U * c1 ≤ a * y + U) (c10 : 0 ≤ c1) (c22 : a * x ≤ U * c2 + 2 * U) (c20 : 0 ≤ c2) (hc : c1 * c1 + c2 * c2 ≤ a * a) :
    px*px + py*py + c1*c1 + c2*c2 + 2*(px*c1 - py*c2) < (U+5)*(U+5) := by
  have hU0 : 0 < U := by omega
  generalize hM : U - b = M at *
  have hM0 : 0 ≤ M := by omega
  have xM : 0 ≤ x * M := Int.mul_nonneg hx hM0
  have yM : 0 ≤ y * M := Int.mul_nonneg hy hM0
  have xa : 0 ≤ a * x := Int.mul_nonneg ha.1 hx
  have ya : 0 ≤ a * y := Int.mul_nonneg ha.1 hy
  have Upx : 0 ≤ U * px := Int.mul_nonneg (by omega) p0
  have Upy : 0 ≤ U * py := Int.mul_nonneg (by omega) q0
  have Uc1 : 0 ≤ U * c1 := Int.mul_nonneg (by omega) c10
  have Uc2 : 0 ≤ U * c2 := Int.mul_nonneg (by omega) c20
  -- squares
  have s1 : (U*px)*(U*px) ≤ (x*M+2*U)*(x*M+2*U) := Int.mul_le_mul p1 p1 Upx (by omega)
  have s2 : (U*py)*(U*py) ≤ (y*M+2*U)*(y*M+2*U) := Int.mul_le_mul q1 q1 Upy (by omega)
  have s3 : (U*px)*(U*c1) ≤ (x*M+2*U)*(a*y+U) := Int.mul_le_mul p1 c11 Uc1 (by omega)
  -- from below
  have s4 : (y*M)*(a*x) - 2*(U*(y*M)) - U*(a*x) ≤ (U*py)*(U*c2) := by
    have h0 : 0 ≤ (U*py)*(U*c2) := Int.mul_nonneg Upy Uc2
    rcases Int.lt_or_le (y*M) U with k | k
    · have : (y*M)*(a*x) ≤ U*(a*x) := Int.mul_le_mul_of_nonneg_right (by omega) xa
      have := Int.mul_nonneg (show 0 ≤ U by omega) yM
      omega
    rcases Int.lt_or_le (a*x) (2*U) with k' | k'
    · have : (y*M)*(a*x) ≤ (y*M)*(2*U) := Int.mul_le_mul_of_nonneg_left (by omega) yM
      have := Int.mul_nonneg (show 0 ≤ U by omega) xa
      grind
    · have h1 : (y*M - U)*(a*x - 2*U) ≤ (U*py)*(U*c2) := Int.mul_le_mul (by omega) (by omega) (by omega) Upy
      have := sw_sq U
      grind
  have m1 : (x*x+y*y)*(M*M) ≤ (U*U)*(M*M) := Int.mul_le_mul_of_nonneg_right hs (sw_sq M)
  have m2 : (2*(x+y))*(U*M) ≤ (3*U)*(U*M) := Int.mul_le_mul_of_nonneg_right (sw_sum hs (by omega)) (Int.mul_nonneg (by omega) hM0)
  have m3 : (4*(x+2*y))*(U*M) ≤ (9*U)*(U*M) := Int.mul_le_mul_of_nonneg_right (sw_sum2 hs (by omega)) (Int.mul_nonneg (by omega) hM0)
  have m4 : (4*(x+2*y))*(U*a) ≤ (9*U)*(U*a) := Int.mul_le_mul_of_nonneg_right (sw_sum2 hs (by omega)) (Int.mul_nonneg (by omega) ha.1)
  have m5 : (U*U)*(c1*c1+c2*c2) ≤ (U*U)*(a*a) := Int.mul_le_mul_of_nonneg_left hc (sw_sq U)
  -- all
  have key : 2*(U*U*(px*px + py*py + c1*c1 + c2*c2 + 2*(px*c1 - py*c2))) ≤ (U*U)*(2*(M*M) + 21*M + 24 + 2*(a*a) + 9*a) := by
    grind
  have fin : 2*(M*M) + 21*M + 24 + 2*(a*a) + 9*a < 2*((U+5)*(U+5)) := by
    have e : U = M + b := by omega
    have f1 : a*a ≤ b*b := Int.mul_le_mul ha.2 ha.2 ha.1 (by omega)
    have f2 : M*1 ≤ M*b := Int.mul_le_mul_of_nonneg_left hb hM0
    subst e
    grind
  have pU : 0 < U*U := Int.mul_pos hU0 hU0
  have l := Int.mul_lt_mul_of_pos_left fin pU
  refine Int.lt_of_mul_lt_mul_left (a := 2*(U*U)) ?_ (by omega)
  grind
end Go.Proofs.YtgpljldfbhkdlaaGreat

/- Glide: no tick makes a stone faster. -/
namespace Go.Proofs.YtgpljldfbhkdlaaGreat
open Go.RowKit

theorem up_is2 {a : Int} (h0 : 0 ≤ a) (h1 : a < 85070591730234615865843651857942052864) : 0 ≤ rtN a 2 ∧ a ≤ rtN a 2 * rtN a 2 ∧ (0 < a → (rtN a 2 - 1) * (rtN a 2 - 1) < a) ∧ rt a ≤ rtN a 2 ∧ rtN a 2 ≤ rt a + 1 := by
  obtain ⟨r0, r1, r2, r3⟩ := rt_spec h0 h1
  have hu : rtUp a 2 = !(rt a * rt a == a) := rfl
  unfold rtN
  rw [hu]
  by_cases h : rt a * rt a = a
  · rw [h]
    simp only [BEq.rfl, Bool.not_true, cond_false, Int.add_zero]
    refine ⟨r0, by omega, fun hp => ?_, by omega, by omega⟩
    have hr : 1 ≤ rt a := by
      rcases Int.lt_or_le (rt a) 1 with c | c
      · have : rt a = 0 := by omega
        rw [this] at h; omega
      · exact c
    have e : (rt a - 1) * (rt a - 1) = rt a * rt a - 2 * rt a + 1 := by rw [Int.sub_mul, Int.mul_sub]; omega
    omega
  · rw [show (rt a * rt a == a) = false by simpa using h]
    simp only [Bool.not_false, cond_true]
    refine ⟨by omega, by omega, fun _ => ?_, by omega, by omega⟩
    rw [Int.add_sub_cancel]
    omega
theorem len_up {vx vy : Int} (hx : -65536000 ≤ vx ∧ vx ≤ 65536000) (hy : -65536000 ≤ vy ∧ vy ≤ 65536000) : lenE vx vy 2 = 0 ∧ lenV vx vy 2 = rtN (sq2 vx vy) 2 ∧ (0 ≤ sq2 vx vy ∧ sq2 vx vy ≤ 8589934592000000) := by
  obtain ⟨_, l2, l3, _⟩ := len_down hx hy
  have m1 := mul_in ⟨ab_nn vx, ab_le.2 hx⟩ ⟨ab_nn vx, ab_le.2 hx⟩
  have m2 := mul_in ⟨ab_nn vy, ab_le.2 hy⟩ ⟨ab_nn vy, ab_le.2 hy⟩
  have hs : 0 ≤ sq2 vx vy ∧ sq2 vx vy ≤ 8589934592000000 := by unfold sq2; omega
  obtain ⟨u1, _, _, _, u5⟩ := up_is2 hs.1 (by omega)
  rw [l2] at l3
  have hf : fxB (rtN (sq2 vx vy) 2) = true := decide_eq_true (by omega)
  refine ⟨?_, ?_, hs⟩
  · unfold lenE lenB fxE
    rw [ok_le hx (by omega), ok_le hy (by omega), hf]; rfl
  · unfold lenV lenB fxV
    rw [ok_le hx (by omega), ok_le hy (by omega), hf]; rfl
theorem ng_sg {s : Bool} {m : Int} (h : 0 < m) : ngB (sg s m) = s := by
  unfold ngB sg
  cases s
  · exact decide_eq_false (by simp only [cond_false]; omega)
  · exact decide_eq_true (by simp only [cond_true]; omega)
theorem sg_0 (s : Bool) : sg s 0 = 0 := by cases s <;> rfl
theorem cut_sg (s : Bool) {m : Int} (h : 0 ≤ m) (b : Int) : cutP (sg s m) b = sg (xorB s (ngB b)) (m * ab b / 65536) := by
  unfold cutP
  rw [ab_sg s h]
  rcases Int.lt_or_le 0 m with c | c
  · rw [ng_sg c]
  · have : m = 0 := by omega
    subst this
    rw [Int.zero_mul, Int.zero_ediv, sg_0, sg_0]
/-- A direction's number, beside the length that is rounded up. -/
theorem dir_nums {vx vy : Int} (hx : okB vx = true) (hy : okB vy = true) (hz : 0 < sq2 vx vy) {U : Int} (u0 : 1 ≤ U) (u1 : sq2 vx vy ≤ U * U) (u2 : (U - 1) * (U - 1) < sq2 vx vy) : ∃ mx my : Int, uniV vx vy vx = sg (ngB vx) mx ∧ uniV vx vy vy = sg (ngB vy) my ∧ (0 ≤ mx ∧ mx ≤ 65536) ∧ (0 ≤ my ∧ my ≤ 65536) ∧
    (mx * (U - 1) ≤ 65536 * ab vx ∧ 65536 * ab vx ≤ (mx + 1) * U) ∧ (my * (U - 1) ≤ 65536 * ab vy ∧ 65536 * ab vy ≤ (my + 1) * U) ∧ mx * mx + my * my ≤ 4294967296 := by
  obtain ⟨s1, s2⟩ := shB_of hx hy (show sq2 vx vy ≠ 0 by omega)
  have a := shr_in s1
  have b := shr_in s2
  rw [vw_hl] at a b
  obtain ⟨a0, a1, a2, a3⟩ := a
  obtain ⟨b0, b1, b2, b3⟩ := b
  have hzb : (sq2 vx vy == 0) = false := beq_eq_false_iff_ne.2 (by omega)
  have ex : uniV vx vy vx = sg (ngB vx) (shr (ab vx) (sq2 vx vy)) := by unfold uniV uniB; rw [hx, hy, hzb]; rfl
  have ey : uniV vx vy vy = sg (ngB vy) (shr (ab vy) (sq2 vx vy)) := by unfold uniV uniB; rw [hx, hy, hzb]; rfl
  simp only [shrP, decide_eq_true_eq, decide_eq_false_iff_not] at a2 a3 b2 b3
  have t1 : ((shr (ab vx) (sq2 vx vy)).toNat : Int) = shr (ab vx) (sq2 vx vy) := by omega
  have t2 : ((shr (ab vy) (sq2 vx vy)).toNat : Int) = shr (ab vy) (sq2 vx vy) := by omega
  have t3 : (((shr (ab vx) (sq2 vx vy)).toNat + 1 : Nat) : Int) = shr (ab vx) (sq2 vx vy) + 1 := by omega
  have t4 : (((shr (ab vy) (sq2 vx vy)).toNat + 1 : Nat) : Int) = shr (ab vy) (sq2 vx vy) + 1 := by omega
  rw [t1] at a2; rw [t2] at b2; rw [t3] at a3; rw [t4] at b3
  refine ⟨_, _, ex, ey, ⟨a0, a1⟩, ⟨b0, b1⟩, ?_, ?_, ?_⟩
  all_goals
    have nx := ab_nn vx
    have ny := ab_nn vy
    generalize shr (ab vx) (sq2 vx vy) = mx at *
    generalize shr (ab vy) (sq2 vx vy) = my at *
  · generalize sq2 vx vy = s at *
    have w1 : (mx * mx) * ((U - 1) * (U - 1)) ≤ (mx * mx) * s := Int.mul_le_mul_of_nonneg_left (by omega) (sw_sq mx)
    have w2 : ((mx + 1) * (mx + 1)) * s ≤ ((mx + 1) * (mx + 1)) * (U * U) := Int.mul_le_mul_of_nonneg_left u1 (sw_sq (mx + 1))
    refine ⟨sw_le (by omega) ?_, sw_le (Int.mul_nonneg (by omega) (by omega)) ?_⟩ <;> grind
  · generalize sq2 vx vy = s at *
    have w1 : (my * my) * ((U - 1) * (U - 1)) ≤ (my * my) * s := Int.mul_le_mul_of_nonneg_left (by omega) (sw_sq my)
    have w2 : ((my + 1) * (my + 1)) * s ≤ ((my + 1) * (my + 1)) * (U * U) := Int.mul_le_mul_of_nonneg_left u1 (sw_sq (my + 1))
    refine ⟨sw_le (by omega) ?_, sw_le (Int.mul_nonneg (by omega) (by omega)) ?_⟩ <;> grind
  · have e : sq2 vx vy = ab vx * ab vx + ab vy * ab vy := rfl
    refine Int.le_of_mul_le_mul_right (a := sq2 vx vy) ?_ hz
    rw [Int.add_mul]
    omega
theorem slow_sign (t1 t2 t3 : Bool) {x y q1 q2 p q e1 e2 V : Int} (ea : x = q1 + p) (ec : y = q2 + q) (H1 : p * p + q * q + e1 * e1 + e2 * e2 + 2 * (p * e1 - q * e2) < V) (H2 : p * p + q * q + e1 * e1 + e2 * e2 + 2 * (q * e2 - p * e1) < V) :
    (sg t1 x - sg t1 q1 + sg (xorB (!t2) t3) e1) * (sg t1 x - sg t1 q1 + sg (xorB (!t2) t3) e1) + (sg t2 y - sg t2 q2 + sg (xorB t1 t3) e2) * (sg t2 y - sg t2 q2 + sg (xorB t1 t3) e2) < V := by
  subst ea ec
  have a1 : q1 + p - q1 = p := by omega
  have a2 : q2 + q - q2 = q := by omega
  have a3 : -(q1 + p) - -q1 = -p := by omega
  have a4 : -(q2 + q) - -q2 = -q := by omega
  cases t1 <;> cases t2 <;> cases t3 <;> simp only [sg, xorB, Bool.not_true, Bool.not_false, bne_self_eq_false, cond_true, cond_false, Bool.true_bne, Bool.false_bne, a1, a2, a3, a4] <;> grind
theorem tick_slow {sl bd ax ay vx vy sp n : Int} (h : TkOk sl bd ax ay vx vy sp n) (hr : tkR sl vx vy n = false) : sq2 (tkVX sl bd vx vy sp n) (tkVY sl bd vx vy sp n) < (rtN (sq2 vx vy) 2 + 5) * (rtN (sq2 vx vy) 2 + 5) := by
  have g := tk_is h
  have hr' : ¬ lenV vx vy 1 ≤ tkB sl n := of_decide_eq_false hr
  obtain ⟨l1, l2, l3, l4⟩ := len_down h.vx h.vy
  obtain ⟨_, _, s0, s1⟩ := len_up h.vx h.vy
  have gb := g.b; have gc := g.c
  have hz : 0 < sq2 vx vy := by
    rcases Int.lt_or_le 0 (sq2 vx vy) with c | c
    · exact c
    · exact absurd (show lenV vx vy 1 ≤ tkB sl n by rw [l4 (by omega)]; exact gb.1) hr'
  obtain ⟨u1, u2, u3, u4, u5⟩ := up_is2 s0 (by omega)
  rw [l2] at hr'
  generalize hU : rtN (sq2 vx vy) 2 = U at *
  rcases Int.lt_or_le 0 (tkB sl n) with hb | hb
  case inr =>
    have hb0 : tkB sl n = 0 := by omega
    have z1 : ∀ a, cutP a 0 = 0 := fun a => by unfold cutP; rw [show ab 0 = 0 from rfl, Int.mul_zero, Int.zero_ediv, sg_0]
    have z2 : ∀ a, cutP 0 a = 0 := fun a => by unfold cutP; rw [show ab 0 = 0 from rfl, Int.zero_mul, Int.zero_ediv, sg_0]
    have e1 : tkVX sl bd vx vy sp n = vx := by unfold tkVX; rw [hb0, z1, z2, z1]; omega
    have e2 : tkVY sl bd vx vy sp n = vy := by unfold tkVY; rw [hb0, z1, z2, z1]; omega
    rw [e1, e2]
    have : U * U < (U + 5) * (U + 5) := by grind
    omega
  have hbU : tkB sl n ≤ U - 1 := by omega
  obtain ⟨mx, my, ex, ey, mx0, my0, mx1, my1, mm⟩ := dir_nums (ok_le h.vx (by omega)) (ok_le h.vy (by omega)) hz (U := U) (by omega) u2 (u3 hz)
  have hA : ab (cutP (tkB sl n) (tkC bd n sp)) ≤ tkB sl n := by
    rw [cut_sz, ab_pos gb.1]
    exact div_le (by omega) (Int.mul_le_mul_of_nonneg_left (ab_le.2 gc) gb.1)
  have hA0 := ab_nn (cutP (tkB sl n) (tkC bd n sp))
  obtain ⟨x1, x2, x3, x4⟩ := sw_cut mx1.1 mx1.2 mx0 gb hbU
  obtain ⟨y1, y2, y3, y4⟩ := sw_cut my1.1 my1.2 my0 gb hbU
  obtain ⟨c1, c2, c3, _⟩ := sw_cut my1.1 my1.2 my0 (b := ab (cutP (tkB sl n) (tkC bd n sp))) ⟨hA0, by omega⟩ (by omega)
  obtain ⟨d1, d2, d3, _⟩ := sw_cut mx1.1 mx1.2 mx0 (b := ab (cutP (tkB sl n) (tkC bd n sp))) ⟨hA0, by omega⟩ (by omega)
  have eb : ab (tkB sl n) = tkB sl n := ab_pos gb.1
  have enb : ngB (tkB sl n) = false := ng_pos gb.1
  have eX : tkVX sl bd vx vy sp n = sg (ngB vx) (ab vx) - sg (ngB vx) (mx * tkB sl n / 65536) + sg (xorB (!ngB vy) (ngB (cutP (tkB sl n) (tkC bd n sp)))) (my * ab (cutP (tkB sl n) (tkC bd n sp)) / 65536) := by
    unfold tkVX
    have en : -uniV vx vy vy = sg (!ngB vy) my := by rw [ey]; unfold sg; cases ngB vy <;> simp
    rw [en, ex, cut_sg _ mx0.1, cut_sg _ my0.1, sg_ab, eb, enb]
    cases ngB vx <;> rfl
  have eY : tkVY sl bd vx vy sp n = sg (ngB vy) (ab vy) - sg (ngB vy) (my * tkB sl n / 65536) + sg (xorB (ngB vx) (ngB (cutP (tkB sl n) (tkC bd n sp)))) (mx * ab (cutP (tkB sl n) (tkC bd n sp)) / 65536) := by
    unfold tkVY
    rw [ex, ey, cut_sg _ mx0.1, cut_sg _ my0.1, sg_ab, eb, enb]
    cases ngB vy <;> rfl
  have hs : ab vx * ab vx + ab vy * ab vy ≤ U * U := u2
  have hcc : (my * ab (cutP (tkB sl n) (tkC bd n sp)) / 65536) * (my * ab (cutP (tkB sl n) (tkC bd n sp)) / 65536) + (mx * ab (cutP (tkB sl n) (tkC bd n sp)) / 65536) * (mx * ab (cutP (tkB sl n) (tkC bd n sp)) / 65536) ≤ ab (cutP (tkB sl n) (tkC bd n sp)) * ab (cutP (tkB sl n) (tkC bd n sp)) := by
    generalize ab (cutP (tkB sl n) (tkC bd n sp)) = a at *
    have k1 : 65536 * (my * a / 65536) ≤ my * a := Int.mul_ediv_self_le (by omega)
    have k2 : 65536 * (mx * a / 65536) ≤ mx * a := Int.mul_ediv_self_le (by omega)
    generalize my * a / 65536 = p at *
    generalize mx * a / 65536 = q at *
    have m1 : (65536 * p) * (65536 * p) ≤ (my * a) * (my * a) := Int.mul_le_mul k1 k1 (by omega) (by omega)
    have m2 : (65536 * q) * (65536 * q) ≤ (mx * a) * (mx * a) := Int.mul_le_mul k2 k2 (by omega) (by omega)
    have m3 : (mx * mx + my * my) * (a * a) ≤ 4294967296 * (a * a) := Int.mul_le_mul_of_nonneg_right mm (sw_sq a)
    grind
  have vx0 := ab_nn vx
  have vy0 := ab_nn vy
  rw [show sq2 (tkVX sl bd vx vy sp n) (tkVY sl bd vx vy sp n) = tkVX sl bd vx vy sp n * tkVX sl bd vx vy sp n + tkVY sl bd vx vy sp n * tkVY sl bd vx vy sp n from by unfold sq2; rw [ab_sq, ab_sq], eX, eY]
  generalize ab (cutP (tkB sl n) (tkC bd n sp)) = a at *
  generalize ngB (cutP (tkB sl n) (tkC bd n sp)) = t3 at *
  generalize ngB vx = t1 at *
  generalize ngB vy = t2 at *
  generalize tkB sl n = b at *
  generalize ab vx = x at *
  generalize ab vy = y at *
  generalize mx * b / 65536 = q1 at *
  generalize my * b / 65536 = q2 at *
  generalize my * a / 65536 = e1 at *
  generalize mx * a / 65536 = e2 at *
  refine slow_sign t1 t2 t3 (p := x - q1) (q := y - q2) (by omega) (by omega) ?_ ?_
  · refine sw_tick vx0 vy0 hs (b := b) (a := a) (by omega) ⟨hA0, hA⟩ (by omega) ?_ ?_ (by omega) ?_ ?_ (by omega) (by omega) c1 (by omega) d1 hcc
    all_goals
      rw [Int.mul_sub, Int.mul_sub]
      first
        | (rw [Int.mul_comm x U, Int.mul_comm x b]; omega)
        | (rw [Int.mul_comm y U, Int.mul_comm y b]; omega)
  · have hs' : y * y + x * x ≤ U * U := by omega
    have := sw_tick vy0 vx0 hs' (b := b) (a := a) (px := y - q2) (py := x - q1) (c1 := e2) (c2 := e1) (by omega) ⟨hA0, hA⟩ (by omega) (by rw [Int.mul_sub, Int.mul_sub, Int.mul_comm y U, Int.mul_comm y b]; omega) (by rw [Int.mul_sub, Int.mul_sub, Int.mul_comm y U, Int.mul_comm y b]; omega) (by omega) (by rw [Int.mul_sub, Int.mul_sub, Int.mul_comm x U, Int.mul_comm x b]; omega) (by rw [Int.mul_sub, Int.mul_sub, Int.mul_comm x U, Int.mul_comm x b]; omega) (by omega) (by omega) d1 (by omega) c1 (by omega)
    omega
end Go.Proofs.YtgpljldfbhkdlaaGreat

/- GlideSlows: its text, and that it answers true. -/
namespace Go.Proofs.YtgpljldfbhkdlaaGreat
open Go.RowKit

--FS fsGs | fsGt | flen=besom/fixed.Length
noncomputable def fsGs : FuncId → Option Fsp := fun g =>
  if g = 19 then some flenS else
  fsGt g
theorem fsGs_ok : FsOk fsGs :=
  fs_cons flenS_ok <|
  fsGt_ok
--END
--AT fsGs spL twV
noncomputable def gslT {α : Type} (F G H I J K A B C D E Z ax ay vx vy sp : Int) (k : AOut → Option α) : Option α :=
  bif Z != 0 then k (b1 (A == 0 && (B == 0 && true) && (C == 0 && (D == 0 && true) && (E == 0 && true))))
  else bif lenE vx vy 2 != 0 then k (b1 false) else bif lenE C D 1 != 0 then k (b1 false) else bif decide (lenV C D 1 > IntKind.i64.wrap (lenV vx vy 2 + 4)) then k (b1 false)
  else bif E == 0 then
    bif C == 0 && (D == 0 && true) then
      bif A == ax && (B == ay && true) then
        bif K == 0 then k (b1 (F == A && (G == B && true) && (H == C && (I == D && true) && (J == E && true)))) else k (b1 false)
      else bif E == sp then k (b1 (A == IntKind.i64.wrap (ax + C) && (B == IntKind.i64.wrap (ay + D) && true))) else k (b1 false)
    else bif E == sp then k (b1 (A == IntKind.i64.wrap (ax + C) && (B == IntKind.i64.wrap (ay + D) && true))) else k (b1 false)
  else bif E == sp then k (b1 (A == IntKind.i64.wrap (ax + C) && (B == IntKind.i64.wrap (ay + D) && true))) else k (b1 false)
noncomputable def gslU {α : Type} (cx cy sd w h : Int) (pb po : List Int) (fl ke sw be we : Int) (ax ay vx vy sp : Int) (n A B C D E Z : Int) (k : AOut → Option α) : Option α :=
  gslT (tsA (rgtB cx cy sd w h pb po fl ke sw be we A B C D E n) (slwV cx cy sd w h pb po fl ke sw be we A B) (bdvV cx cy sd w h pb po fl ke sw be we A B) A B C D E n) (tsB (rgtB cx cy sd w h pb po fl ke sw be we A B C D E n) (slwV cx cy sd w h pb po fl ke sw be we A B) (bdvV cx cy sd w h pb po fl ke sw be we A B) A B C D E n) (tsC (rgtB cx cy sd w h pb po fl ke sw be we A B C D E n) (slwV cx cy sd w h pb po fl ke sw be we A B) (bdvV cx cy sd w h pb po fl ke sw be we A B) A B C D E n) (tsD (rgtB cx cy sd w h pb po fl ke sw be we A B C D E n) (slwV cx cy sd w h pb po fl ke sw be we A B) (bdvV cx cy sd w h pb po fl ke sw be we A B) A B C D E n) (tsE (rgtB cx cy sd w h pb po fl ke sw be we A B C D E n) (slwV cx cy sd w h pb po fl ke sw be we A B) (bdvV cx cy sd w h pb po fl ke sw be we A B) A B C D E n) (tsZ (rgtB cx cy sd w h pb po fl ke sw be we A B C D E n) (slwV cx cy sd w h pb po fl ke sw be we A B) (bdvV cx cy sd w h pb po fl ke sw be we A B) A B C D E n) A B C D E Z ax ay vx vy sp k
noncomputable def gslV {α : Type} (cx cy sd w h : Int) (pb po : List Int) (fl ke sw be we : Int) (ax ay vx vy sp : Int) (n : Int) (k : AOut → Option α) : Option α :=
  gslU cx cy sd w h pb po fl ke sw be we ax ay vx vy sp n (tsA (rgtB cx cy sd w h pb po fl ke sw be we ax ay vx vy sp n) (slwV cx cy sd w h pb po fl ke sw be we ax ay) (bdvV cx cy sd w h pb po fl ke sw be we ax ay) ax ay vx vy sp n) (tsB (rgtB cx cy sd w h pb po fl ke sw be we ax ay vx vy sp n) (slwV cx cy sd w h pb po fl ke sw be we ax ay) (bdvV cx cy sd w h pb po fl ke sw be we ax ay) ax ay vx vy sp n) (tsC (rgtB cx cy sd w h pb po fl ke sw be we ax ay vx vy sp n) (slwV cx cy sd w h pb po fl ke sw be we ax ay) (bdvV cx cy sd w h pb po fl ke sw be we ax ay) ax ay vx vy sp n) (tsD (rgtB cx cy sd w h pb po fl ke sw be we ax ay vx vy sp n) (slwV cx cy sd w h pb po fl ke sw be we ax ay) (bdvV cx cy sd w h pb po fl ke sw be we ax ay) ax ay vx vy sp n) (tsE (rgtB cx cy sd w h pb po fl ke sw be we ax ay vx vy sp n) (slwV cx cy sd w h pb po fl ke sw be we ax ay) (bdvV cx cy sd w h pb po fl ke sw be we ax ay) ax ay vx vy sp n) (tsZ (rgtB cx cy sd w h pb po fl ke sw be we ax ay vx vy sp n) (slwV cx cy sd w h pb po fl ke sw be we ax ay) (bdvV cx cy sd w h pb po fl ke sw be we ax ay) ax ay vx vy sp n) k
set_option maxRecDepth 100000 in
theorem gslows_text (N n0 : Nat) (α : Type) (cx cy sd w h : Int) (pb po : List Int) (fl ke sw be we : Int) (ax ay vx vy sp : Int) (u : Int) (k : AOut → Option α) : evFn real tab ((twV fsGs spL).env real tab N (n0 + 8)) N Tryz.f7 α [.agg [.int .i64 cx, .int .i64 cy, .int .i64 sd, .int .i64 w, .int .i64 h, .ro (.int .i64) pb, .ro (.int .i64) po, .int .i64 fl, .int .i64 ke, .int .i64 sw, .int .i64 be, .int .i64 we], .agg [.int .i64 ax, .int .i64 ay, .int .i64 vx, .int .i64 vy, .int .i64 sp], .int .u16 u] k =
    bif decide ((pb.length : Int) > 400) then k (b1 true) else bif decide ((po.length : Int) > 400) then k (b1 true) else gslV cx cy sd w h pb po fl ke sw be we ax ay vx vy sp ((IntKind.i64.wrap u).tmod 1001) k := by kernel_rfl
theorem gsl_bad {α : Type} {F G H I J K A B C D E Z ax ay vx vy sp : Int} (k : AOut → Option α) (hz : Z ≠ 0) (h : A = 0 ∧ B = 0 ∧ C = 0 ∧ D = 0 ∧ E = 0) : gslT F G H I J K A B C D E Z ax ay vx vy sp k = k (b1 true) := by
  obtain ⟨rfl, rfl, rfl, rfl, rfl⟩ := h
  unfold gslT
  rw [show (Z != 0) = true by simpa using hz]; rfl
theorem gsl_good {α : Type} {F G H I J K A B C D E Z ax ay vx vy sp : Int} (k : AOut → Option α) (hz : Z = 0) (l1 : lenE vx vy 2 = 0) (l2 : lenE C D 1 = 0) (l3 : lenV C D 1 ≤ IntKind.i64.wrap (lenV vx vy 2 + 4))
    (h5 : E = 0 ∧ C = 0 ∧ D = 0 ∧ A = ax ∧ B = ay → F = A ∧ G = B ∧ H = C ∧ I = D ∧ J = E ∧ K = 0) (h6 : ¬ (E = 0 ∧ C = 0 ∧ D = 0 ∧ A = ax ∧ B = ay) → E = sp ∧ A = IntKind.i64.wrap (ax + C) ∧ B = IntKind.i64.wrap (ay + D)) : gslT F G H I J K A B C D E Z ax ay vx vy sp k = k (b1 true) := by
  unfold gslT
  rw [hz, l1, l2, gt_le, decide_eq_true l3]
  simp only [bne_self_eq_false, Bool.not_true, cond_false, Bool.and_true]
  by_cases hc : E = 0 ∧ C = 0 ∧ D = 0 ∧ A = ax ∧ B = ay
  · obtain ⟨f1, f2, f3, f4, f5, f6⟩ := h5 hc
    obtain ⟨c1, c2, c3, c4, c5⟩ := hc
    rw [f1, f2, f3, f4, f5, f6, c1, c2, c3, c4, c5]
    simp only [BEq.rfl, Bool.and_self, cond_true]
  · obtain ⟨e1, e2, e3⟩ := h6 hc
    have q1 : (E == sp) = true := by simpa using e1
    have q2 : (A == IntKind.i64.wrap (ax + C)) = true := by rw [e2]; exact BEq.rfl
    have q3 : (B == IntKind.i64.wrap (ay + D)) = true := by rw [e3]; exact BEq.rfl
    rw [q1, q2, q3]
    cases b1' : (E == 0)
    · rfl
    cases b2' : (C == 0 && D == 0)
    · rfl
    cases b3' : (A == ax && B == ay)
    · rfl
    refine absurd ?_ hc
    simp only [Bool.and_eq_true, beq_iff_eq] at b1' b2' b3'
    exact ⟨b1', b2'.1, b2'.2, b3'.1, b3'.2⟩
/-- A stone at rest stays. -/
theorem rest_tick (cx cy sd w h : Int) (pb po : List Int) (fl ke sw be we : Int) (ax ay vx vy sp n : Int) (hR : rgtB cx cy sd w h pb po fl ke sw be we ax ay vx vy sp n = true) : rgtB cx cy sd w h pb po fl ke sw be we ax ay 0 0 0 n = true ∧ tkR (slwV cx cy sd w h pb po fl ke sw be we ax ay) 0 0 n = true := by
  have t := (rgt_ok _ _ _ _ _ _ _ _ _ _ _ _ _ _ _ _ _ _ hR).1
  have g := tk_is t
  refine ⟨?_, ?_⟩
  · unfold rgtB at hR ⊢
    rw [Bool.and_eq_true, Bool.and_eq_true, Bool.and_eq_true] at hR
    obtain ⟨⟨⟨q1, q2⟩, _⟩, q4⟩ := hR
    rw [q1, q2, q4, mov_iff.2 ⟨⟨t.px, t.py⟩, ⟨⟨by omega, by omega⟩, ⟨by omega, by omega⟩⟩, ⟨by omega, by omega⟩⟩]
    rfl
  · unfold tkR
    obtain ⟨_, _, _, l4⟩ := len_down (vx := 0) (vy := 0) ⟨by omega, by omega⟩ ⟨by omega, by omega⟩
    rw [l4 rfl]
    exact decide_eq_true g.b.1
theorem gsl_true {α : Type} (cx cy sd w h : Int) (pb po : List Int) (fl ke sw be we : Int) (ax ay vx vy sp : Int) (n : Int) (k : AOut → Option α) : gslV cx cy sd w h pb po fl ke sw be we ax ay vx vy sp n k = k (b1 true) := by
  unfold gslV gslU
  cases hR : rgtB cx cy sd w h pb po fl ke sw be we ax ay vx vy sp n
  · exact gsl_bad k (by unfold tsZ; simp) ⟨rfl, rfl, rfl, rfl, rfl⟩
  have t := (rgt_ok _ _ _ _ _ _ _ _ _ _ _ _ _ _ _ _ _ _ hR).1
  have g := tk_is t
  obtain ⟨r1, r2⟩ := rest_tick cx cy sd w h pb po fl ke sw be we ax ay vx vy sp n hR
  obtain ⟨u1, u2, u3⟩ := len_up t.vx t.vy
  obtain ⟨w1, w2, _, _, w5⟩ := up_is2 u3.1 (by omega)
  obtain ⟨d1, d2, d3, _⟩ := len_down t.vx t.vy
  rw [d2] at d3
  -- what a stone at rest does
  have two : ∀ A B C D E : Int, E = 0 ∧ C = 0 ∧ D = 0 ∧ A = ax ∧ B = ay → (tsA (rgtB cx cy sd w h pb po fl ke sw be we A B C D E n) (slwV cx cy sd w h pb po fl ke sw be we A B) (bdvV cx cy sd w h pb po fl ke sw be we A B) A B C D E n) = A ∧ (tsB (rgtB cx cy sd w h pb po fl ke sw be we A B C D E n) (slwV cx cy sd w h pb po fl ke sw be we A B) (bdvV cx cy sd w h pb po fl ke sw be we A B) A B C D E n) = B ∧ (tsC (rgtB cx cy sd w h pb po fl ke sw be we A B C D E n) (slwV cx cy sd w h pb po fl ke sw be we A B) (bdvV cx cy sd w h pb po fl ke sw be we A B) A B C D E n) = C ∧ (tsD (rgtB cx cy sd w h pb po fl ke sw be we A B C D E n) (slwV cx cy sd w h pb po fl ke sw be we A B) (bdvV cx cy sd w h pb po fl ke sw be we A B) A B C D E n) = D ∧ (tsE (rgtB cx cy sd w h pb po fl ke sw be we A B C D E n) (slwV cx cy sd w h pb po fl ke sw be we A B) (bdvV cx cy sd w h pb po fl ke sw be we A B) A B C D E n) = E ∧ (tsZ (rgtB cx cy sd w h pb po fl ke sw be we A B C D E n) (slwV cx cy sd w h pb po fl ke sw be we A B) (bdvV cx cy sd w h pb po fl ke sw be we A B) A B C D E n) = 0 := by
    rintro A B C D E ⟨rfl, rfl, rfl, rfl, rfl⟩
    unfold tsA tsB tsC tsD tsE tsZ tkStep selI
    rw [r1, r2]
    exact ⟨rfl, rfl, rfl, rfl, rfl, rfl⟩
  cases hr : tkR (slwV cx cy sd w h pb po fl ke sw be we ax ay) vx vy n
  · cases hm : tkM (slwV cx cy sd w h pb po fl ke sw be we ax ay) (bdvV cx cy sd w h pb po fl ke sw be we ax ay) ax ay vx vy sp n
    · refine gsl_bad k ?_ ⟨?_, ?_, ?_, ?_, ?_⟩
      · unfold tsZ tkStep; rw [hr, hm]; simp
      · unfold tsA tkStep selI; rw [hr, hm]; rfl
      · unfold tsB tkStep selI; rw [hr, hm]; rfl
      · unfold tsC tkStep selI; rw [hr, hm]; rfl
      · unfold tsD tkStep selI; rw [hr, hm]; rfl
      · unfold tsE tkStep selI; rw [hr, hm]; rfl
    · have sA : tsA true (slwV cx cy sd w h pb po fl ke sw be we ax ay) (bdvV cx cy sd w h pb po fl ke sw be we ax ay) ax ay vx vy sp n = ax + tkVX (slwV cx cy sd w h pb po fl ke sw be we ax ay) (bdvV cx cy sd w h pb po fl ke sw be we ax ay) vx vy sp n := by unfold tsA tkStep selI; rw [hr, hm]; rfl
      have sB : tsB true (slwV cx cy sd w h pb po fl ke sw be we ax ay) (bdvV cx cy sd w h pb po fl ke sw be we ax ay) ax ay vx vy sp n = ay + tkVY (slwV cx cy sd w h pb po fl ke sw be we ax ay) (bdvV cx cy sd w h pb po fl ke sw be we ax ay) vx vy sp n := by unfold tsB tkStep selI; rw [hr, hm]; rfl
      have sC : tsC true (slwV cx cy sd w h pb po fl ke sw be we ax ay) (bdvV cx cy sd w h pb po fl ke sw be we ax ay) ax ay vx vy sp n = tkVX (slwV cx cy sd w h pb po fl ke sw be we ax ay) (bdvV cx cy sd w h pb po fl ke sw be we ax ay) vx vy sp n := by unfold tsC tkStep selI; rw [hr, hm]; rfl
      have sD : tsD true (slwV cx cy sd w h pb po fl ke sw be we ax ay) (bdvV cx cy sd w h pb po fl ke sw be we ax ay) ax ay vx vy sp n = tkVY (slwV cx cy sd w h pb po fl ke sw be we ax ay) (bdvV cx cy sd w h pb po fl ke sw be we ax ay) vx vy sp n := by unfold tsD tkStep selI; rw [hr, hm]; rfl
      have sE : tsE true (slwV cx cy sd w h pb po fl ke sw be we ax ay) (bdvV cx cy sd w h pb po fl ke sw be we ax ay) ax ay vx vy sp n = sp := by unfold tsE tkStep selI; rw [hr, hm]; rfl
      have sZ : tsZ true (slwV cx cy sd w h pb po fl ke sw be we ax ay) (bdvV cx cy sd w h pb po fl ke sw be we ax ay) ax ay vx vy sp n = 0 := by unfold tsZ tkStep; rw [hr, hm]; rfl
      rw [sA, sB, sC, sD, sE, sZ]
      obtain ⟨⟨p1, p2⟩, ⟨v1, v2⟩, _⟩ := mov_iff.1 hm
      have sl := tick_slow t hr
      obtain ⟨e1, e2, e3, _⟩ := len_down v1 v2
      obtain ⟨_, _, e4⟩ := len_up v1 v2
      obtain ⟨q0, q1, q2, q3⟩ := rt_spec e4.1 (by omega)
      refine gsl_good k rfl u1 e1 ?_ (fun hc => two _ _ _ _ _ hc) (fun _ => ⟨rfl, (i64_in _ (by omega)).symm, (i64_in _ (by omega)).symm⟩)
      rw [e2, u2, i64_in _ (by omega)]
      rcases Int.lt_or_le (rtN (sq2 vx vy) 2 + 4) (rt (sq2 (tkVX (slwV cx cy sd w h pb po fl ke sw be we ax ay) (bdvV cx cy sd w h pb po fl ke sw be we ax ay) vx vy sp n) (tkVY (slwV cx cy sd w h pb po fl ke sw be we ax ay) (bdvV cx cy sd w h pb po fl ke sw be we ax ay) vx vy sp n))) with c | c
      · have c' := Int.add_one_le_of_lt c
        rw [show rtN (sq2 vx vy) 2 + 4 + 1 = rtN (sq2 vx vy) 2 + 5 by omega] at c'
        have := Int.mul_le_mul c' c' (by omega) q0
        omega
      · exact c
  · have sA : tsA true (slwV cx cy sd w h pb po fl ke sw be we ax ay) (bdvV cx cy sd w h pb po fl ke sw be we ax ay) ax ay vx vy sp n = ax := by unfold tsA tkStep selI; rw [hr]; rfl
    have sB : tsB true (slwV cx cy sd w h pb po fl ke sw be we ax ay) (bdvV cx cy sd w h pb po fl ke sw be we ax ay) ax ay vx vy sp n = ay := by unfold tsB tkStep selI; rw [hr]; rfl
    have sC : tsC true (slwV cx cy sd w h pb po fl ke sw be we ax ay) (bdvV cx cy sd w h pb po fl ke sw be we ax ay) ax ay vx vy sp n = 0 := by unfold tsC tkStep selI; rw [hr]; rfl
    have sD : tsD true (slwV cx cy sd w h pb po fl ke sw be we ax ay) (bdvV cx cy sd w h pb po fl ke sw be we ax ay) ax ay vx vy sp n = 0 := by unfold tsD tkStep selI; rw [hr]; rfl
    have sE : tsE true (slwV cx cy sd w h pb po fl ke sw be we ax ay) (bdvV cx cy sd w h pb po fl ke sw be we ax ay) ax ay vx vy sp n = 0 := by unfold tsE tkStep selI; rw [hr]; rfl
    have sZ : tsZ true (slwV cx cy sd w h pb po fl ke sw be we ax ay) (bdvV cx cy sd w h pb po fl ke sw be we ax ay) ax ay vx vy sp n = 0 := by unfold tsZ tkStep; rw [hr]; rfl
    rw [sA, sB, sC, sD, sE, sZ]
    obtain ⟨e1, _, _, e4⟩ := len_down (vx := 0) (vy := 0) ⟨by omega, by omega⟩ ⟨by omega, by omega⟩
    refine gsl_good k rfl u1 e1 ?_ (fun hc => two _ _ _ _ _ hc) (fun hc => absurd ⟨rfl, rfl, rfl, rfl, rfl⟩ hc)
    rw [e4 rfl, u2, i64_in _ (by omega)]
    omega
theorem gslows_true (cx cy sd w h : Int) (pb po : List Int) (fl ke sw be we : Int) (ax ay vx vy sp : Int) (u : Int) : evFn real tab ((twV fsGs spL).env real tab 8 8) 8 Tryz.f7 AOut [.agg [.int .i64 cx, .int .i64 cy, .int .i64 sd, .int .i64 w, .int .i64 h, .ro (.int .i64) pb, .ro (.int .i64) po, .int .i64 fl, .int .i64 ke, .int .i64 sw, .int .i64 be, .int .i64 we], .agg [.int .i64 ax, .int .i64 ay, .int .i64 vx, .int .i64 vy, .int .i64 sp], .int .u16 u] some = some (b1 true) := by
  refine (gslows_text 8 0 AOut cx cy sd w h pb po fl ke sw be we ax ay vx vy sp u some).trans ?_
  rw [gsl_true]
  cases decide ((pb.length : Int) > 400) <;> cases decide ((po.length : Int) > 400) <;> rfl
def gslowsF : List AVal → Option AOut
  | [.agg [.int .i64 cx, .int .i64 cy, .int .i64 sd, .int .i64 w, .int .i64 h, .ro (.int .i64) pb, .ro (.int .i64) po, .int .i64 fl, .int .i64 ke, .int .i64 sw, .int .i64 be, .int .i64 we], .agg [.int .i64 ax, .int .i64 ay, .int .i64 vx, .int .i64 vy, .int .i64 sp], .int .u16 u] => some (b1 true)
  | _ => none
theorem gslows_ok : FspOk Tryz.prog 7 (toFsp gslowsF) := tower_V fsGs_ok spL_ok ⟨Tryz.func7, fun _ _ => by kernel_rfl⟩ (toFsp_nat _) fun args out hSm hq => by
  replace hq := toFsp_some hq
  unfold gslowsF at hq
  split at hq
  · rename_i cx cy sd w h pb po fl ke sw be we ax ay vx vy sp u
    cases hq
    exact ⟨8, 8, gslows_true cx cy sd w h pb po fl ke sw be we ax ay vx vy sp u⟩
  · cases hq
end Go.Proofs.YtgpljldfbhkdlaaGreat
