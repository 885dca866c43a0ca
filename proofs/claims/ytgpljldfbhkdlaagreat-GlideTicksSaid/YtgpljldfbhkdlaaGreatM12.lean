/- Parts of the proof, in build order. -/
import Derived.Test.YtgpljldfbhkdlaaGreatM11
import Derived.Test.YtgpljldfbhkdlaaGreatM10
/- The reference: stones, brooms, ticks (layer 4). -/
namespace Go.Proofs.YtgpljldfbhkdlaaGreat
open Go.RowKit

--AT fnR3 spL twY
def lefX (x y : Int) : Int := bif okB x && okB y then IntKind.i64.wrap (0 - y) else 0
def lefY (x y : Int) : Int := bif okB x && okB y then x else 0
--FIN rleft | besom/besomref01.Left | (x y : Int) | $S{x y} | .ret (.agg [.int .i64 (lefX x y), .int .i64 (lefY x y)])
theorem rleft_fin (x y : Int) (hs : ∀ qSm ∈ ([.agg [.int .i64 x, .int .i64 y]] : List AVal), Sm qSm) : ∃ N n, ∀ α (k : AOut → Option α), evFn real tab ((twY fnR3 spL).env real tab N n) N Tryz.f117 α [.agg [.int .i64 x, .int .i64 y]] k = k (.ret (.agg [.int .i64 (lefX x y), .int .i64 (lefY x y)])) := by
  refine ⟨8, 8, fun α k => (rleft_text 8 0 α x y k).trans ?_⟩
  unfold lefX lefY
  cases okB x
  · rfl
  cases okB y <;> rfl
--CON rleft
noncomputable def rleftS : Fsp := fun _ args k => match args with
  | [.agg [.int .i64 x, .int .i64 y]] => k (.ret (.agg [.int .i64 (lefX x y), .int .i64 (lefY x y)]))
  | _ => none
theorem rleftS_ok : FspOk Tryz.prog 117 rleftS := tower_Y fnR3_ok spL_ok ⟨Tryz.func117, fun _ _ => by kernel_rfl⟩ (by intro α args k; unfold rleftS; split <;> rfl) fun args out hSm hEq => by
  unfold rleftS at hEq
  split at hEq
  · rename_i x y
    obtain ⟨N, n, e⟩ := rleft_fin x y hSm
    exact ⟨N, n, (e AOut some).trans hEq⟩
  · cases hEq
--END
--FIN rmov | besom/besomref04.Moving | $MB | $MO | b1 (movB $MV)
theorem rmov_fin (ax ay vx vy sp : Int) (hs : ∀ qSm ∈ ([.agg [.int .i64 ax, .int .i64 ay, .int .i64 vx, .int .i64 vy, .int .i64 sp]] : List AVal), Sm qSm) : ∃ N n, ∀ α (k : AOut → Option α), evFn real tab ((twY fnR3 spL).env real tab N n) N Tryz.f62 α [.agg [.int .i64 ax, .int .i64 ay, .int .i64 vx, .int .i64 vy, .int .i64 sp]] k = k (b1 (movB ax ay vx vy sp)) := by
  refine ⟨8, 8, fun α k => (rmov_text 8 0 α ax ay vx vy sp k).trans ?_⟩
  unfold movB
  rw [ge_le, ge_le]
  cases plcB ax ay <;> cases decide (-65536000 ≤ vx) <;> cases decide (-65536000 ≤ vy) <;> cases decide (vx ≤ 65536000) <;> cases decide (vy ≤ 65536000) <;> cases decide (-1000 ≤ sp) <;> rfl
--CON rmov
noncomputable def rmovS : Fsp := fun _ args k => match args with
  | [.agg [.int .i64 ax, .int .i64 ay, .int .i64 vx, .int .i64 vy, .int .i64 sp]] => k (b1 (movB ax ay vx vy sp))
  | _ => none
theorem rmovS_ok : FspOk Tryz.prog 62 rmovS := tower_Y fnR3_ok spL_ok ⟨Tryz.func62, fun _ _ => by kernel_rfl⟩ (by intro α args k; unfold rmovS; split <;> rfl) fun args out hSm hEq => by
  unfold rmovS at hEq
  split at hEq
  · rename_i ax ay vx vy sp
    obtain ⟨N, n, e⟩ := rmov_fin ax ay vx vy sp hSm
    exact ⟨N, n, (e AOut some).trans hEq⟩
  · cases hEq
--END
--FS fnRa | fnR3 | rleft;rmov;rlen=besom/besomref01.Length;rtimes=besom/besomref01.Times;rslow=besom/besomref03.Slow;rbend=besom/besomref03.Bend
noncomputable def fnRa : FuncId → Option Fsp := fun g =>
  if g = 117 then some rleftS else
  if g = 62 then some rmovS else
  if g = 113 then some rlenS else
  if g = 116 then some rtimesS else
  if g = 17 then some rslowS else
  if g = 112 then some rbendS else
  fnR3 g
theorem fnRa_ok : FsOk fnRa :=
  fs_cons rleftS_ok <|
  fs_cons rmovS_ok <|
  fs_cons rlenS_ok <|
  fs_cons rtimesS_ok <|
  fs_cons rslowS_ok <|
  fs_cons rbendS_ok <|
  fnR3_ok
--END
/-! Plain numbers. -/
theorem ml_cut {a b : Int} (ha : -1048576 ≤ a ∧ a ≤ 1048576) (hb : -1048576 ≤ b ∧ b ≤ 1048576) : mulE a b 0 = 0 ∧ mulV a b 0 = cutP a b := by
  obtain ⟨_, p2, p3⟩ := pr_cut2 ha hb
  unfold mulE mulV mulB fxE fxV
  rw [ok_le ha (by omega), ok_le hb (by omega), p2, p3]
  exact ⟨rfl, rfl⟩
theorem sc_spin {c sp : Int} (hc : 0 ≤ c ∧ c ≤ 65536) (hs : -1000 ≤ sp ∧ sp ≤ 1000) : scV c sp 1000 0 = spnV c sp := by
  have hi := (spn_in hc hs).1
  have hg : scG c sp 1000 = ngB sp := by unfold scG; rw [ng_pos hc.1, ng_pos (x := 1000) (by omega)]; cases ngB sp <;> rfl
  have hN : scN c sp 1000 0 = c * ab sp / 1000 := by
    unfold scN
    rw [ab_pos hc.1, show ab 1000 = 1000 from rfl, rnd_cut]
  have hok : scB c sp 1000 0 = true := by
    unfold scB
    rw [ok_iff.2 (by omega), rate_iff.2 (by omega), rate_iff.2 (by omega)]; rfl
  have hf : fxB (c * ab sp / 1000) = true := decide_eq_true (by omega)
  unfold scV fxV
  rw [hok, hN, hg, hf]
  rfl
--AT fnRa spL twY
def rbrT {α : Type} (l : List BrI) (N : Nat) (k : AOut → Option α) : Option α :=
  afterL
    (iterL N
      (fun (x : Int × PUnit) =>
        bif decide (x.1 < (l.length : Int)) then
          if 0 ≤ x.1 ∧ x.1 < (l.length : Int) then
            if 0 ≤ x.1 ∧ x.1 < (l.length : Int) then
              bif decide (0 ≤ (l.getD x.1.toNat brD).1) then
                bif !decide ((l.getD x.1.toNat brD).1 ≤ (l.getD x.1.toNat brD).2.1) then finL (k (b1 false))
                else
                  if 0 ≤ x.1 ∧ x.1 < (l.length : Int) then
                    bif decide ((l.getD x.1.toNat brD).2.1 > 6000) then finL (k (b1 false))
                    else
                      if 0 ≤ x.1 ∧ x.1 < (l.length : Int) then
                        bif decide (0 ≤ (l.getD x.1.toNat brD).2.2.1) then
                          bif !decide ((l.getD x.1.toNat brD).2.2.1 ≤ 1000) then finL (k (b1 false))
                          else some (LRes.cont (IntKind.i64.wrap (x.1 + 1), PUnit.unit))
                        else finL (k (b1 false))
                      else none
                  else none
              else finL (k (b1 false))
            else none
          else none
        else some (LRes.brk 0 (x.1, PUnit.unit)))
      (0, PUnit.unit))
    fun (id : Nat) (_ : Int × PUnit) => if id = 0 then k (b1 (decide ((l.length : Int) ≤ 64))) else none
theorem rbrs_text (N n0 : Nat) (α : Type) (l : List BrI) (k : AOut → Option α) : evFn real tab ((twY fnRa spL).env real tab N (n0 + 8)) N Tryz.f55 α [.ro (.recd (.cons (.int .i64) (.cons (.int .i64) (.cons (.int .i64) .nil)))) l] k = rbrT l N k := by kernel_rfl
theorem rbrs_nil (N n0 : Nat) (α : Type) (k : AOut → Option α) : evFn real tab ((twY fnRa spL).env real tab (N + 1) (n0 + 8)) (N + 1) Tryz.f55 α [.nils] k = k (b1 true) := by kernel_rfl
theorem rbrT_fin {α : Type} (l : List BrI) (hl : l.length ≤ maxLen) (k : AOut → Option α) : rbrT l (l.length + 1) k = k (b1 (brsB l)) := by
  unfold rbrT brsB
  refine (any_loop (fun i : Nat => ((i : Int), PUnit.unit)) l.length (fun i => oddR (l.getD i brD)) (b := 0) (y := ((l.length : Int), PUnit.unit)) (k (b1 false)) (fun i hi => ?_) ?_).trans ?_
  · simp only [lt_len hi, cond_true]
    rw [if_pos (in_len hi), if_pos (in_len hi), if_pos (in_len hi), if_pos (in_len hi), wrap_next hi hl, Int.toNat_natCast, gt_le]
    unfold oddR brmB
    cases decide (0 ≤ (l.getD i brD).1)
    · rfl
    cases decide ((l.getD i brD).1 ≤ (l.getD i brD).2.1)
    · rfl
    cases decide ((l.getD i brD).2.1 ≤ 6000)
    · rfl
    cases decide (0 ≤ (l.getD i brD).2.2.1)
    · rfl
    cases decide ((l.getD i brD).2.2.1 ≤ 1000) <;> rfl
  · simp only [not_lt_len, cond_false]
  · rw [any_rangeX l brD oddR, any_oddR]
    cases l.all brmB <;> cases decide ((l.length : Int) ≤ 64) <;> rfl
noncomputable def rbrsS : Fsp := fun _ args k => match args with
  | [.ro (.recd (.cons (.int .i64) (.cons (.int .i64) (.cons (.int .i64) .nil)))) l] => k (b1 (brsB l))
  | [.nils] => k (b1 true)
  | _ => none
theorem rbrsS_ok : FspOk Tryz.prog 55 rbrsS := tower_Y fnRa_ok spL_ok ⟨Tryz.func55, fun _ _ => by kernel_rfl⟩ (by intro α args k; unfold rbrsS; split <;> rfl) fun args out hSm hEq => by
  unfold rbrsS at hEq
  split at hEq
  · rename_i l
    exact ⟨l.length + 1, 8, (rbrs_text (l.length + 1) 0 AOut l some).trans ((rbrT_fin l (hSm _ (by simp)).len some).trans hEq)⟩
  · exact ⟨1, 8, (rbrs_nil 0 0 AOut some).trans hEq⟩
  · cases hEq
def rsrT {α : Type} (l : List BrI) (t : Int) (N : Nat) (k : AOut → Option α) : Option α :=
  afterL
    (iterL N
      (fun (x : Int × Int × PUnit) =>
        bif decide (x.2.1 < (l.length : Int)) then
          if 0 ≤ x.2.1 ∧ x.2.1 < (l.length : Int) then
            bif decide ((l.getD x.2.1.toNat brD).1 ≤ t) then
              if 0 ≤ x.2.1 ∧ x.2.1 < (l.length : Int) then
                bif decide ((l.getD x.2.1.toNat brD).2.1 > t) then
                  if 0 ≤ x.2.1 ∧ x.2.1 < (l.length : Int) then
                    some (LRes.cont (if x.1 < (l.getD x.2.1.toNat brD).2.2.1 then (l.getD x.2.1.toNat brD).2.2.1 else x.1, IntKind.i64.wrap (x.2.1 + 1), PUnit.unit))
                  else none
                else some (LRes.cont (x.1, IntKind.i64.wrap (x.2.1 + 1), PUnit.unit))
              else none
            else some (LRes.cont (x.1, IntKind.i64.wrap (x.2.1 + 1), PUnit.unit))
          else none
        else some (LRes.brk 0 (x.1, x.2.1, PUnit.unit)))
      (0, 0, PUnit.unit))
    fun (id : Nat) (y : Int × Int × PUnit) => if id = 0 then k (i1 y.1) else none
theorem rstr_text (N n0 : Nat) (α : Type) (l : List BrI) (t : Int) (k : AOut → Option α) : evFn real tab ((twY fnRa spL).env real tab N (n0 + 8)) N Tryz.f57 α [.ro (.recd (.cons (.int .i64) (.cons (.int .i64) (.cons (.int .i64) .nil)))) l, .int .i64 t] k = rsrT l t N k := by kernel_rfl
theorem rstr_nil (N n0 : Nat) (α : Type) (t : Int) (k : AOut → Option α) : evFn real tab ((twY fnRa spL).env real tab (N + 1) (n0 + 8)) (N + 1) Tryz.f57 α [.nils, .int .i64 t] k = k (i1 0) := by kernel_rfl
theorem rsrT_fin {α : Type} (l : List BrI) (t : Int) (hl : l.length ≤ maxLen) (k : AOut → Option α) : rsrT l t (l.length + 1) k = k (i1 (strN l t)) := by
  unfold rsrT
  refine (count_loop (fun i : Nat => (strN (l.take i) t, (i : Int), PUnit.unit)) l.length (b := 0) (y := (strN (l.take l.length) t, (l.length : Int), PUnit.unit)) (fun i hi => ?_) ?_ (Nat.lt_succ_self _)).trans ?_
  · simp only [lt_len hi, cond_true]
    rw [if_pos (in_len hi), if_pos (in_len hi), if_pos (in_len hi), wrap_next hi hl, Int.toNat_natCast, str_next l t hi]
    have e : decide ((l.getD i brD).2.1 > t) = decide (t < (l.getD i brD).2.1) := rfl
    rw [e]
    unfold strF
    cases decide ((l.getD i brD).1 ≤ t)
    · rfl
    cases decide (t < (l.getD i brD).2.1) <;> rfl
  · simp only [not_lt_len, cond_false]
  · rw [List.take_length]; rfl
noncomputable def rstrS : Fsp := fun _ args k => match args with
  | [.ro (.recd (.cons (.int .i64) (.cons (.int .i64) (.cons (.int .i64) .nil)))) l, .int .i64 t] => k (i1 (strN l t))
  | [.nils, .int .i64 t] => k (i1 0)
  | _ => none
theorem rstrS_ok : FspOk Tryz.prog 57 rstrS := tower_Y fnRa_ok spL_ok ⟨Tryz.func57, fun _ _ => by kernel_rfl⟩ (by intro α args k; unfold rstrS; split <;> rfl) fun args out hSm hEq => by
  unfold rstrS at hEq
  split at hEq
  · rename_i l t
    exact ⟨l.length + 1, 8, (rstr_text (l.length + 1) 0 AOut l t some).trans ((rsrT_fin l t (hSm _ (by simp)).len some).trans hEq)⟩
  · rename_i t
    exact ⟨1, 8, (rstr_nil 0 0 AOut t some).trans hEq⟩
  · cases hEq
/-! A tick of the reference. -/
abbrev mvR (ax ay vx vy sp e : Int) : AOut := .ret (.tup [.agg [iN ax, iN ay, iN vx, iN vy, iN sp], iN e])
noncomputable def rnx3 {α : Type} (ax ay sp VX VY : Int) (k : AOut → Option α) : Option α :=
  bif !movB (IntKind.i64.wrap (ax + VX)) (IntKind.i64.wrap (ay + VY)) VX VY sp then k (mvR 0 0 0 0 0 4) else k (mvR (IntKind.i64.wrap (ax + VX)) (IntKind.i64.wrap (ay + VY)) VX VY sp 0)
noncomputable def rnx2 {α : Type} (ax ay vx vy sp ux uy lx ly B A : Int) (k : AOut → Option α) : Option α :=
  rnx3 ax ay sp (IntKind.i64.wrap (IntKind.i64.wrap (vx - twoV (mulE ux B 0) (mulE uy B 0) (mulV ux B 0)) + twoV (mulE lx A 0) (mulE ly A 0) (mulV lx A 0)))
    (IntKind.i64.wrap (IntKind.i64.wrap (vy - twoV (mulE ux B 0) (mulE uy B 0) (mulV uy B 0)) + twoV (mulE lx A 0) (mulE ly A 0) (mulV ly A 0))) k
noncomputable def rnx1 {α : Type} (ax ay vx vy sp sl bd u : Int) (k : AOut → Option α) : Option α :=
  bif decide (lenV vx vy 1 ≤ scV sl (IntKind.i64.wrap (5000 - u)) 5000 3) then k (mvR ax ay 0 0 0 0)
  else rnx2 ax ay vx vy sp (uniV vx vy vx) (uniV vx vy vy) (lefX (uniV vx vy vx) (uniV vx vy vy)) (lefY (uniV vx vy vx) (uniV vx vy vy)) (scV sl (IntKind.i64.wrap (5000 - u)) 5000 3) (mulV (scV sl (IntKind.i64.wrap (5000 - u)) 5000 3) (scV (scV bd (IntKind.i64.wrap (2000 - u)) 2000 3) sp 1000 0) 0) k
set_option maxRecDepth 100000 in
theorem rnxt_text (N n0 : Nat) (α : Type) (cx cy sd w h : Int) (pb po : List Int) (fl ke sw be we : Int) (ax ay vx vy sp : Int) (u : Int) (k : AOut → Option α) : evFn real tab ((twY fnRa spL).env real tab N (n0 + 8)) N Tryz.f59 α [.agg [.int .i64 cx, .int .i64 cy, .int .i64 sd, .int .i64 w, .int .i64 h, .ro (.int .i64) pb, .ro (.int .i64) po], .agg [.int .i64 fl, .int .i64 ke, .int .i64 sw, .int .i64 be, .int .i64 we], .agg [.int .i64 ax, .int .i64 ay, .int .i64 vx, .int .i64 vy, .int .i64 sp], .int .i64 u] k = rnx1 ax ay vx vy sp (slwV cx cy sd w h pb po fl ke sw be we ax ay) (bdvV cx cy sd w h pb po fl ke sw be we ax ay) u k := by kernel_rfl
theorem rnx_fin {α : Type} {sl bd ax ay vx vy sp n : Int} (h : TkOk sl bd ax ay vx vy sp n) (k : AOut → Option α) : rnx1 ax ay vx vy sp sl bd n k = k (tkO true sl bd ax ay vx vy sp n) := by
  have g := tk_is h
  have h1 := h.n
  obtain ⟨l1, l2, l3, l4⟩ := len_down h.vx h.vy
  unfold rnx1
  rw [i64_in (5000 - n) (by omega), i64_in (2000 - n) (by omega), (sc_near h.sl (n := 5000 - n) (d := 5000) ⟨by omega, by omega⟩ ⟨by omega, by omega⟩).1, (sc_near h.bd (n := 2000 - n) (d := 2000) ⟨by omega, by omega⟩ ⟨by omega, by omega⟩).1, sc_spin g.b1 h.sp]
  show (bif tkR sl vx vy n then _ else rnx2 ax ay vx vy sp _ _ _ _ (tkB sl n) (mulV (tkB sl n) (tkC bd n sp) 0) k) = _
  unfold tkO tsA tsB tsC tsD tsE tsZ tkStep
  cases hr : tkR sl vx vy n
  · have hr' : ¬ lenV vx vy 1 ≤ tkB sl n := of_decide_eq_false hr
    have d := dir_of (ok_le h.vx (by omega)) (ok_le h.vy (by omega)) (fun hz => hr' (by rw [l4 hz]; exact g.b.1))
    have dx := d.ux; have dy := d.uy; have gb := g.b; have ga := g.a; have gc := g.c
    have px := h.px; have py := h.py; have hvx := h.vx; have hvy := h.vy
    have cb := cut_in d.ux (b := tkB sl n) (B := 65536) ⟨by omega, by omega⟩
    have cc := cut_in d.uy (b := tkB sl n) (B := 65536) ⟨by omega, by omega⟩
    have ca := cut_in (a := -uniV vx vy vy) ⟨by omega, by omega⟩ ga
    have cd := cut_in d.ux ga
    obtain ⟨t1, t2⟩ := ml_cut (a := uniV vx vy vx) (b := tkB sl n) ⟨by omega, by omega⟩ ⟨by omega, by omega⟩
    obtain ⟨t3, t4⟩ := ml_cut (a := uniV vx vy vy) (b := tkB sl n) ⟨by omega, by omega⟩ ⟨by omega, by omega⟩
    obtain ⟨m1, m2⟩ := ml_cut (a := tkB sl n) (b := tkC bd n sp) ⟨by omega, by omega⟩ ⟨by omega, by omega⟩
    obtain ⟨s1, s2⟩ := ml_cut (a := -uniV vx vy vy) (b := cutP (tkB sl n) (tkC bd n sp)) ⟨by omega, by omega⟩ ⟨by omega, by omega⟩
    obtain ⟨s3, s4⟩ := ml_cut (a := uniV vx vy vx) (b := cutP (tkB sl n) (tkC bd n sp)) ⟨by omega, by omega⟩ ⟨by omega, by omega⟩
    have o1 : okB (uniV vx vy vx) = true := ok_le d.ux (by omega)
    have o2 : okB (uniV vx vy vy) = true := ok_le d.uy (by omega)
    have hlx : lefX (uniV vx vy vx) (uniV vx vy vy) = -uniV vx vy vy := by
      unfold lefX
      rw [o1, o2, i64_in (0 - uniV vx vy vy) (by omega)]
      simp only [Bool.and_self, cond_true]; omega
    have hly : lefY (uniV vx vy vx) (uniV vx vy vy) = uniV vx vy vx := by
      unfold lefY
      rw [o1, o2]; rfl
    have vX : -65667072 ≤ tkVX sl bd vx vy sp n ∧ tkVX sl bd vx vy sp n ≤ 65667072 := by unfold tkVX; omega
    have vY : -65667072 ≤ tkVY sl bd vx vy sp n ∧ tkVY sl bd vx vy sp n ≤ 65667072 := by unfold tkVY; omega
    unfold rnx2
    rw [hlx, hly, m2, t1, t2, t3, t4, s1, s2, s3, s4]
    show rnx3 ax ay sp (IntKind.i64.wrap (IntKind.i64.wrap (vx - cutP (uniV vx vy vx) (tkB sl n)) + cutP (-uniV vx vy vy) (cutP (tkB sl n) (tkC bd n sp)))) (IntKind.i64.wrap (IntKind.i64.wrap (vy - cutP (uniV vx vy vy) (tkB sl n)) + cutP (uniV vx vy vx) (cutP (tkB sl n) (tkC bd n sp)))) k = _
    rw [i64_in (vx - cutP (uniV vx vy vx) (tkB sl n)) (by omega), i64_in (vy - cutP (uniV vx vy vy) (tkB sl n)) (by omega), i64_in (_ + _) (by omega), i64_in (_ + _) (by omega)]
    show rnx3 ax ay sp (tkVX sl bd vx vy sp n) (tkVY sl bd vx vy sp n) k = _
    unfold rnx3 tkM
    rw [i64_in (ax + tkVX sl bd vx vy sp n) (by omega), i64_in (ay + tkVY sl bd vx vy sp n) (by omega)]
    cases movB (ax + tkVX sl bd vx vy sp n) (ay + tkVY sl bd vx vy sp n) (tkVX sl bd vx vy sp n) (tkVY sl bd vx vy sp n) sp <;> rfl
  · rfl
--FIN rnxt | besom/besomref04.Next | $ICB $GB $MB (u : Int) | $ICE, $GR, $MO, .int .i64 u | tkO true (slwV $ICV $GV ax ay) (bdvV $ICV $GV ax ay) $MV u | rgtB $ICV $GV $MV u
theorem rnxt_fin (cx cy sd w h : Int) (pb po : List Int) (fl ke sw be we : Int) (ax ay vx vy sp : Int) (u : Int) (hs : ∀ qSm ∈ ([.agg [.int .i64 cx, .int .i64 cy, .int .i64 sd, .int .i64 w, .int .i64 h, .ro (.int .i64) pb, .ro (.int .i64) po], .agg [.int .i64 fl, .int .i64 ke, .int .i64 sw, .int .i64 be, .int .i64 we], .agg [.int .i64 ax, .int .i64 ay, .int .i64 vx, .int .i64 vy, .int .i64 sp], .int .i64 u] : List AVal), Sm qSm) (hCo : (rgtB cx cy sd w h pb po fl ke sw be we ax ay vx vy sp u) = true) : ∃ N n, ∀ α (k : AOut → Option α), evFn real tab ((twY fnRa spL).env real tab N n) N Tryz.f59 α [.agg [.int .i64 cx, .int .i64 cy, .int .i64 sd, .int .i64 w, .int .i64 h, .ro (.int .i64) pb, .ro (.int .i64) po], .agg [.int .i64 fl, .int .i64 ke, .int .i64 sw, .int .i64 be, .int .i64 we], .agg [.int .i64 ax, .int .i64 ay, .int .i64 vx, .int .i64 vy, .int .i64 sp], .int .i64 u] k = k (tkO true (slwV cx cy sd w h pb po fl ke sw be we ax ay) (bdvV cx cy sd w h pb po fl ke sw be we ax ay) ax ay vx vy sp u) := by
  exact ⟨8, 8, fun α k => (rnxt_text 8 0 α cx cy sd w h pb po fl ke sw be we ax ay vx vy sp u k).trans (rnx_fin (rgt_ok _ _ _ _ _ _ _ _ _ _ _ _ _ _ _ _ _ _ hCo).1 k)⟩
--CON rnxt
noncomputable def rnxtS : Fsp := fun _ args k => match args with
  | [.agg [.int .i64 cx, .int .i64 cy, .int .i64 sd, .int .i64 w, .int .i64 h, .ro (.int .i64) pb, .ro (.int .i64) po], .agg [.int .i64 fl, .int .i64 ke, .int .i64 sw, .int .i64 be, .int .i64 we], .agg [.int .i64 ax, .int .i64 ay, .int .i64 vx, .int .i64 vy, .int .i64 sp], .int .i64 u] => bif rgtB cx cy sd w h pb po fl ke sw be we ax ay vx vy sp u then (k (tkO true (slwV cx cy sd w h pb po fl ke sw be we ax ay) (bdvV cx cy sd w h pb po fl ke sw be we ax ay) ax ay vx vy sp u)) else none
  | _ => none
theorem rnxtS_ok : FspOk Tryz.prog 59 rnxtS := tower_Y fnRa_ok spL_ok ⟨Tryz.func59, fun _ _ => by kernel_rfl⟩ (by intro α args k; unfold rnxtS; split <;> simp only [cond_bind, Option.bind_some, Option.bind_none]) fun args out hSm hEq => by
  unfold rnxtS at hEq
  split at hEq
  · rename_i cx cy sd w h pb po fl ke sw be we ax ay vx vy sp u
    cases hc : rgtB cx cy sd w h pb po fl ke sw be we ax ay vx vy sp u
    · rw [hc] at hEq; cases hEq
    · rw [hc] at hEq
      obtain ⟨N, n, e⟩ := rnxt_fin cx cy sd w h pb po fl ke sw be we ax ay vx vy sp u hSm hc
      exact ⟨N, n, (e AOut some).trans hEq⟩
  · cases hEq
--END
--FS fnRb | fnRa | rbrs=besom/besomref04.Brooms;rstr=besom/besomref04.strength;rnxt
noncomputable def fnRb : FuncId → Option Fsp := fun g =>
  if g = 55 then some rbrsS else
  if g = 57 then some rstrS else
  if g = 59 then some rnxtS else
  fnRa g
theorem fnRb_ok : FsOk fnRb :=
  fs_cons rbrsS_ok <|
  fs_cons rstrS_ok <|
  fs_cons rnxtS_ok <|
  fnRa_ok
--END
--AT fnRb spL twY
--TEXT rStr | twY fnRb spL | 8 | besom/besomref04.Strength | (l : List BrI) (t : Int) | .ro $BSH l, .int .i64 t
--KEY 37acb7737e
set_option maxRecDepth 100000 in
theorem rStr_text (N n0 : Nat) (α : Type) (l : List BrI) (t : Int) (k : AOut → Option α) : evFn real tab ((twY fnRb spL).env real tab N (n0 + 8)) N Tryz.f21 α [.ro (.recd (.cons (.int .i64) (.cons (.int .i64) (.cons (.int .i64) .nil)))) l, .int .i64 t] k =
  bif !brsB l then k (AOut.ret (AVal.tup [AVal.int IntKind.i64 0, AVal.int IntKind.i64 2]))
  else
    bif decide (0 ≤ t) then
      bif !decide (t ≤ 6000) then k (AOut.ret (AVal.tup [AVal.int IntKind.i64 0, AVal.int IntKind.i64 2]))
      else k (AOut.ret (AVal.tup [AVal.int IntKind.i64 (strN l t), AVal.int IntKind.i64 0]))
    else k (AOut.ret (AVal.tup [AVal.int IntKind.i64 0, AVal.int IntKind.i64 2])) := by kernel_rfl
--END
--END
--TEXT rTick | twY fnRb spL | 8 | besom/besomref04.Tick | $ICB $GB $MB (u : Int) | $ICE, $GR, $MO, .int .i64 u
--KEY 90b6298b54
set_option maxRecDepth 100000 in
theorem rTick_text (N n0 : Nat) (α : Type) (cx cy sd w h : Int) (pb po : List Int) (fl ke sw be we : Int) (ax ay vx vy sp : Int) (u : Int) (k : AOut → Option α) : evFn real tab ((twY fnRb spL).env real tab N (n0 + 8)) N Tryz.f22 α [.agg [.int .i64 cx, .int .i64 cy, .int .i64 sd, .int .i64 w, .int .i64 h, .ro (.int .i64) pb, .ro (.int .i64) po], .agg [.int .i64 fl, .int .i64 ke, .int .i64 sw, .int .i64 be, .int .i64 we], .agg [.int .i64 ax, .int .i64 ay, .int .i64 vx, .int .i64 vy, .int .i64 sp], .int .i64 u] k =
  bif iceB cx cy sd w h pb po then
    bif graB fl ke sw be we then
      bif movB ax ay vx vy sp then
        bif decide (0 ≤ u) then
          bif !decide (u ≤ 1000) then
            k
              (AOut.ret
                (AVal.tup
                  [AVal.agg
                      [AVal.int IntKind.i64 0, AVal.int IntKind.i64 0, AVal.int IntKind.i64 0, AVal.int IntKind.i64 0,
                        AVal.int IntKind.i64 0],
                    AVal.int IntKind.i64 2]))
          else
            bif rgtB cx cy sd w h pb po fl ke sw be we ax ay vx vy sp u then
              k
                (AOut.ret
                  (AVal.tup
                    [AVal.agg
                        [AVal.int IntKind.i64
                            (tsA true (slwV cx cy sd w h pb po fl ke sw be we ax ay)
                              (bdvV cx cy sd w h pb po fl ke sw be we ax ay) ax ay vx vy sp u),
                          AVal.int IntKind.i64
                            (tsB true (slwV cx cy sd w h pb po fl ke sw be we ax ay)
                              (bdvV cx cy sd w h pb po fl ke sw be we ax ay) ax ay vx vy sp u),
                          AVal.int IntKind.i64
                            (tsC true (slwV cx cy sd w h pb po fl ke sw be we ax ay)
                              (bdvV cx cy sd w h pb po fl ke sw be we ax ay) ax ay vx vy sp u),
                          AVal.int IntKind.i64
                            (tsD true (slwV cx cy sd w h pb po fl ke sw be we ax ay)
                              (bdvV cx cy sd w h pb po fl ke sw be we ax ay) ax ay vx vy sp u),
                          AVal.int IntKind.i64
                            (tsE true (slwV cx cy sd w h pb po fl ke sw be we ax ay)
                              (bdvV cx cy sd w h pb po fl ke sw be we ax ay) ax ay vx vy sp u)],
                      AVal.int IntKind.i64
                        (tsZ true (slwV cx cy sd w h pb po fl ke sw be we ax ay)
                          (bdvV cx cy sd w h pb po fl ke sw be we ax ay) ax ay vx vy sp u)]))
            else none
        else
          k
            (AOut.ret
              (AVal.tup
                [AVal.agg
                    [AVal.int IntKind.i64 0, AVal.int IntKind.i64 0, AVal.int IntKind.i64 0, AVal.int IntKind.i64 0,
                      AVal.int IntKind.i64 0],
                  AVal.int IntKind.i64 2]))
      else
        k
          (AOut.ret
            (AVal.tup
              [AVal.agg
                  [AVal.int IntKind.i64 0, AVal.int IntKind.i64 0, AVal.int IntKind.i64 0, AVal.int IntKind.i64 0,
                    AVal.int IntKind.i64 0],
                AVal.int IntKind.i64 2]))
    else
      k
        (AOut.ret
          (AVal.tup
            [AVal.agg
                [AVal.int IntKind.i64 0, AVal.int IntKind.i64 0, AVal.int IntKind.i64 0, AVal.int IntKind.i64 0,
                  AVal.int IntKind.i64 0],
              AVal.int IntKind.i64 2]))
  else
    k
      (AOut.ret
        (AVal.tup
          [AVal.agg
              [AVal.int IntKind.i64 0, AVal.int IntKind.i64 0, AVal.int IntKind.i64 0, AVal.int IntKind.i64 0,
                AVal.int IntKind.i64 0],
            AVal.int IntKind.i64 2])) := by kernel_rfl
--END
--END
--FIN rStr | besom/besomref04.Strength | (l : List BrI) (t : Int) | .ro $BSH l, .int .i64 t | i2 (selI (brsB l && tckB t) (strN l t)) (er2 (brsB l && tckB t))
theorem rStr_fin (l : List BrI) (t : Int) (hs : ∀ qSm ∈ ([.ro (.recd (.cons (.int .i64) (.cons (.int .i64) (.cons (.int .i64) .nil)))) l, .int .i64 t] : List AVal), Sm qSm) : ∃ N n, ∀ α (k : AOut → Option α), evFn real tab ((twY fnRb spL).env real tab N n) N Tryz.f21 α [.ro (.recd (.cons (.int .i64) (.cons (.int .i64) (.cons (.int .i64) .nil)))) l, .int .i64 t] k = k (i2 (selI (brsB l && tckB t) (strN l t)) (er2 (brsB l && tckB t))) := by
  refine ⟨8, 8, fun α k => (rStr_text 8 0 α l t k).trans ?_⟩
  unfold tckB
  cases brsB l
  · rfl
  cases decide (0 ≤ t)
  · rfl
  cases decide (t ≤ 6000) <;> rfl
--CON rStr
noncomputable def rStrS : Fsp := fun _ args k => match args with
  | [.ro (.recd (.cons (.int .i64) (.cons (.int .i64) (.cons (.int .i64) .nil)))) l, .int .i64 t] => k (i2 (selI (brsB l && tckB t) (strN l t)) (er2 (brsB l && tckB t)))
  | _ => none
theorem rStrS_ok : FspOk Tryz.prog 21 rStrS := tower_Y fnRb_ok spL_ok ⟨Tryz.func21, fun _ _ => by kernel_rfl⟩ (by intro α args k; unfold rStrS; split <;> rfl) fun args out hSm hEq => by
  unfold rStrS at hEq
  split at hEq
  · rename_i l t
    obtain ⟨N, n, e⟩ := rStr_fin l t hSm
    exact ⟨N, n, (e AOut some).trans hEq⟩
  · cases hEq
--END
--FIN rTick | besom/besomref04.Tick | $ICB $GB $MB (u : Int) | $ICE, $GR, $MO, .int .i64 u | tkO (rgtB $ICV $GV $MV u) (slwV $ICV $GV ax ay) (bdvV $ICV $GV ax ay) $MV u
theorem rTick_fin (cx cy sd w h : Int) (pb po : List Int) (fl ke sw be we : Int) (ax ay vx vy sp : Int) (u : Int) (hs : ∀ qSm ∈ ([.agg [.int .i64 cx, .int .i64 cy, .int .i64 sd, .int .i64 w, .int .i64 h, .ro (.int .i64) pb, .ro (.int .i64) po], .agg [.int .i64 fl, .int .i64 ke, .int .i64 sw, .int .i64 be, .int .i64 we], .agg [.int .i64 ax, .int .i64 ay, .int .i64 vx, .int .i64 vy, .int .i64 sp], .int .i64 u] : List AVal), Sm qSm) : ∃ N n, ∀ α (k : AOut → Option α), evFn real tab ((twY fnRb spL).env real tab N n) N Tryz.f22 α [.agg [.int .i64 cx, .int .i64 cy, .int .i64 sd, .int .i64 w, .int .i64 h, .ro (.int .i64) pb, .ro (.int .i64) po], .agg [.int .i64 fl, .int .i64 ke, .int .i64 sw, .int .i64 be, .int .i64 we], .agg [.int .i64 ax, .int .i64 ay, .int .i64 vx, .int .i64 vy, .int .i64 sp], .int .i64 u] k = k (tkO (rgtB cx cy sd w h pb po fl ke sw be we ax ay vx vy sp u) (slwV cx cy sd w h pb po fl ke sw be we ax ay) (bdvV cx cy sd w h pb po fl ke sw be we ax ay) ax ay vx vy sp u) := by
  refine ⟨8, 8, fun α k => (rTick_text 8 0 α cx cy sd w h pb po fl ke sw be we ax ay vx vy sp u k).trans ?_⟩
  unfold tkO tsA tsB tsC tsD tsE tsZ rgtB grnB
  cases iceB cx cy sd w h pb po
  · rfl
  cases graB fl ke sw be we
  · rfl
  cases movB ax ay vx vy sp
  · rfl
  cases decide (0 ≤ u)
  · rfl
  cases decide (u ≤ 1000) <;> rfl
--CON rTick
noncomputable def rTickS : Fsp := fun _ args k => match args with
  | [.agg [.int .i64 cx, .int .i64 cy, .int .i64 sd, .int .i64 w, .int .i64 h, .ro (.int .i64) pb, .ro (.int .i64) po], .agg [.int .i64 fl, .int .i64 ke, .int .i64 sw, .int .i64 be, .int .i64 we], .agg [.int .i64 ax, .int .i64 ay, .int .i64 vx, .int .i64 vy, .int .i64 sp], .int .i64 u] => k (tkO (rgtB cx cy sd w h pb po fl ke sw be we ax ay vx vy sp u) (slwV cx cy sd w h pb po fl ke sw be we ax ay) (bdvV cx cy sd w h pb po fl ke sw be we ax ay) ax ay vx vy sp u)
  | _ => none
theorem rTickS_ok : FspOk Tryz.prog 22 rTickS := tower_Y fnRb_ok spL_ok ⟨Tryz.func22, fun _ _ => by kernel_rfl⟩ (by intro α args k; unfold rTickS; split <;> rfl) fun args out hSm hEq => by
  unfold rTickS at hEq
  split at hEq
  · rename_i cx cy sd w h pb po fl ke sw be we ax ay vx vy sp u
    obtain ⟨N, n, e⟩ := rTick_fin cx cy sd w h pb po fl ke sw be we ax ay vx vy sp u hSm
    exact ⟨N, n, (e AOut some).trans hEq⟩
  · cases hEq
--END
end Go.Proofs.YtgpljldfbhkdlaaGreat

/- The laws of package ice: alive. -/
namespace Go.Proofs.YtgpljldfbhkdlaaGreat
open Go.RowKit

/-! Roots, open to evaluation. -/
def rtUpC (a how : Int) : Bool := if how = 2 then !(rtC a * rtC a == a) else if how = 3 then decide ((2 * rtC a + 1) * (2 * rtC a + 1) ≤ 4 * a) else false
def rtNC (a how : Int) : Int := rtC a + (bif rtUpC a how then 1 else 0)
def rootVC (a how : Int) : Int := bif rootB a how then (bif ngB a then 0 else fxV false (rtNC (a * 65536) how)) else 0
def rootEC (a how : Int) : Int := bif rootB a how then (bif ngB a then 11 else fxE (rtNC (a * 65536) how)) else 2
def frootCS : Fsp := fun _ args k => match args with
  | [.int .i64 x, .int .i64 how] => k (i2 (rootVC x how) (rootEC x how))
  | _ => none
--AT fsIt spL twY
abbrev pondI : AVal := .agg [iN 0, iN 0, iN 10, iN 2, iN 3, .ro (.int .i64) ([100, 200, 300, 400, 500, 600] : List Int), .ro (.int .i64) ([0, 0, 0, 0, 0, 500] : List Int)]
abbrev pondG : AVal := .agg [iN 1000, iN 500, iN 200, iN 100, iN 150]
--CON pond
noncomputable def pondS : Fsp := fun _ args k => match args with
  | [] => k (.ret (.tup [pondI, pondG]))
  | _ => none
--END
--FS fsIa | fsIt | frootC=besom/fixed.Root;pond
noncomputable def fsIa : FuncId → Option Fsp := fun g =>
  fsIt g
theorem fsIa_ok : FsOk fsIa :=
  fsIt_ok
--CON ialive
noncomputable def ialiveS : Fsp := fun _ args k => match args with
  | [] => k (b1 true)
  | _ => none
--END
--FS fsIb | fsIt | ialive
noncomputable def fsIb : FuncId → Option Fsp := fun g =>
  fsIt g
theorem fsIb_ok : FsOk fsIb :=
  fsIt_ok
--END
--AT fsIb spL twY
--TEXT igreat | twY fsIb spL | 8 | besom/besomref03.Great | $ICB (m : Int) | $ICE, $I{m}
--KEY 81c0e39c97
set_option maxRecDepth 100000 in
theorem igreat_text (N n0 : Nat) (α : Type) (cx cy sd w h : Int) (pb po : List Int) (m : Int) (k : AOut → Option α) : evFn real tab ((twY fsIb spL).env real tab N (n0 + 8)) N Tryz.f15 α [.agg [.int .i64 cx, .int .i64 cy, .int .i64 sd, .int .i64 w, .int .i64 h, .ro (.int .i64) pb, .ro (.int .i64) po], .int .i64 m] k =
  bif decide ((↑pb.length : Int) > m) then k (AOut.ret (AVal.bool true))
  else k (AOut.ret (AVal.bool (decide ((↑po.length : Int) > m)))) := by kernel_rfl
--END
end Go.Proofs.YtgpljldfbhkdlaaGreat

/- GlideNames: the examples of the chapter. -/
namespace Go.Proofs.YtgpljldfbhkdlaaGreat
open Go.RowKit

/-! Lengths and units, open to evaluation. -/
def lenVG (x y how : Int) : Int := bif lenB x y how then fxV false (rtNC (sq2 x y) how) else 0
def lenEG (x y how : Int) : Int := bif lenB x y how then fxE (rtNC (sq2 x y) how) else 2
def flenG : Fsp := fun _ args k => match args with
  | [.agg [.int .i64 x, .int .i64 y], .int .i64 how] => k (i2 (lenVG x y how) (lenEG x y how))
  | _ => none
theorem flenG_ok : FspOk Tryz.prog 19 flenG := by
  have e : flenG = flenS := by
    unfold flenG flenS lenVG lenEG rtNC rtUpC lenV lenE rtN rtUp
    rw [rt_C]
    rfl
  rw [e]; exact flenS_ok
def uniVG (x y c : Int) : Int := bif uniB x y then (bif sq2 x y == 0 then 0 else sg (ngB c) (shrC (ab c) (sq2 x y))) else 0
def funiG : Fsp := fun _ args k => match args with
  | [.agg [.int .i64 x, .int .i64 y]] => k (s2 (uniVG x y x) (uniVG x y y) (uniE x y))
  | _ => none
theorem funiG_ok : FspOk Tryz.prog 92 funiG := by
  have h : ∀ x y c, uniV x y c = uniVG x y c := fun x y c => by unfold uniV uniVG; rw [shr_C]
  have e : funiG = uniS := by
    unfold funiG uniS
    simp only [h]
    rfl
  rw [e]; exact uniS_ok
noncomputable def fsGn : FuncId → Option Fsp := fun g =>
  if g = 19 then some flenG else
  if g = 92 then some funiG else
  if g = 91 then some gmusSS else
  if g = 87 then some gmusFS else
  fsI11 g
theorem fsGn_ok : FsOk fsGn :=
  fs_cons flenG_ok <|
  fs_cons funiG_ok <|
  fs_cons gmusSS_ok <|
  fs_cons gmusFS_ok <|
  fsI11_ok
--AT fsGn spG twY
/-- A contract that is the evaluation itself. -/
noncomputable def evY (N n : Nat) (fn : Func) : Fsp := evFn real tab ((twY fsGn spG).env real tab N n) N fn
theorem evY_ok {f : FuncId} {fn : Func} (hf : FnOk Tryz.prog f fn) (N n : Nat) : FspOk Tryz.prog f (evY N n fn) := fn_ok mixedT tabOk (tower_ok mixedT tabOk (twY_ok fsGn_ok spG_ok) N n) N hf.get hf.enter
theorem gbare_text (α : Type) (k : AOut → Option α) : evFn real tab ((twY fsGn spG).env real tab 8 8) 8 Tryz.f35 α [] k = k (.ret (.agg [iN 0, iN 0, iN 6553600000, iN 1, iN 1, .ro (.int .i64) ([0] : List Int), .ro (.int .i64) ([0] : List Int), iN 1000, iN 1000, iN 0, iN 500, iN 10])) := by kernel_rfl
--FIN gbare | besom/besomlaw04.bare |  |  | .ret (.agg [iN 0, iN 0, iN 6553600000, iN 1, iN 1, .ro (.int .i64) ([0] : List Int), .ro (.int .i64) ([0] : List Int), iN 1000, iN 1000, iN 0, iN 500, iN 10])
theorem gbare_fin  (hs : ∀ qSm ∈ ([] : List AVal), Sm qSm) : ∃ N n, ∀ α (k : AOut → Option α), evFn real tab ((twY fsGn spG).env real tab N n) N Tryz.f35 α [] k = k (.ret (.agg [iN 0, iN 0, iN 6553600000, iN 1, iN 1, .ro (.int .i64) ([0] : List Int), .ro (.int .i64) ([0] : List Int), iN 1000, iN 1000, iN 0, iN 500, iN 10])) := by
  exact ⟨8, 8, fun α k => gbare_text α k⟩
--CON gbare
noncomputable def gbareS : Fsp := fun _ args k => match args with
  | [] => k (.ret (.agg [iN 0, iN 0, iN 6553600000, iN 1, iN 1, .ro (.int .i64) ([0] : List Int), .ro (.int .i64) ([0] : List Int), iN 1000, iN 1000, iN 0, iN 500, iN 10]))
  | _ => none
theorem gbareS_ok : FspOk Tryz.prog 35 gbareS := tower_Y fsGn_ok spG_ok ⟨Tryz.func35, fun _ _ => by kernel_rfl⟩ (by intro α args k; unfold gbareS; split <;> rfl) fun args out hSm hEq => by
  unfold gbareS at hEq
  split at hEq
  · skip
    obtain ⟨N, n, e⟩ := gbare_fin  hSm
    exact ⟨N, n, (e AOut some).trans hEq⟩
  · cases hEq
--END
theorem gup_text (α : Type) (v n : Int) (k : AOut → Option α) : evFn real tab ((twY fsGn spG).env real tab 8 8) 8 Tryz.f16 α [.int .i64 v, .int .i64 n] k = k (.ret (.agg [iN 0, iN 0, iN 0, iN v, iN n])) := by kernel_rfl
--FIN gup | besom/besomlaw04.up | (v m : Int) | $I{v}, $I{m} | .ret (.agg [iN 0, iN 0, iN 0, iN v, iN m])
theorem gup_fin (v m : Int) (hs : ∀ qSm ∈ ([.int .i64 v, .int .i64 m] : List AVal), Sm qSm) : ∃ N n, ∀ α (k : AOut → Option α), evFn real tab ((twY fsGn spG).env real tab N n) N Tryz.f16 α [.int .i64 v, .int .i64 m] k = k (.ret (.agg [iN 0, iN 0, iN 0, iN v, iN m])) := by
  exact ⟨8, 8, fun α k => gup_text α v m k⟩
--CON gup
noncomputable def gupS : Fsp := fun _ args k => match args with
  | [.int .i64 v, .int .i64 m] => k (.ret (.agg [iN 0, iN 0, iN 0, iN v, iN m]))
  | _ => none
theorem gupS_ok : FspOk Tryz.prog 16 gupS := tower_Y fsGn_ok spG_ok ⟨Tryz.func16, fun _ _ => by kernel_rfl⟩ (by intro α args k; unfold gupS; split <;> rfl) fun args out hSm hEq => by
  unfold gupS at hEq
  split at hEq
  · rename_i v m
    obtain ⟨N, n, e⟩ := gup_fin v m hSm
    exact ⟨N, n, (e AOut some).trans hEq⟩
  · cases hEq
--END
noncomputable def fsGo : FuncId → Option Fsp := fun g =>
  if g = 35 then some gbareS else
  if g = 16 then some gupS else
  if g = 18 then some (evY 110 20 Tryz.f18) else
  if g = 14 then some (evY 110 20 Tryz.f14) else
  if g = 29 then some (evY 110 20 Tryz.f29) else
  if g = 32 then some (evY 310 20 Tryz.f32) else
  if g = 20 then some (evY 110 20 Tryz.f20) else
  if g = 25 then some (evY 110 20 Tryz.f25) else
  fsGn g
theorem fsGo_ok : FsOk fsGo :=
  fs_cons gbareS_ok <|
  fs_cons gupS_ok <|
  fs_cons (evY_ok ⟨Tryz.func18, fun _ _ => by kernel_rfl⟩ 110 20) <|
  fs_cons (evY_ok ⟨Tryz.func14, fun _ _ => by kernel_rfl⟩ 110 20) <|
  fs_cons (evY_ok ⟨Tryz.func29, fun _ _ => by kernel_rfl⟩ 110 20) <|
  fs_cons (evY_ok ⟨Tryz.func32, fun _ _ => by kernel_rfl⟩ 310 20) <|
  fs_cons (evY_ok ⟨Tryz.func20, fun _ _ => by kernel_rfl⟩ 110 20) <|
  fs_cons (evY_ok ⟨Tryz.func25, fun _ _ => by kernel_rfl⟩ 110 20) <|
  fsGn_ok
--AT fsGo spG twY
set_option maxRecDepth 100000 in
theorem galive_text (α : Type) (k : AOut → Option α) : evFn real tab ((twY fsGo spG).env real tab 110 20) 110 Tryz.f12 α [] k = k (b1 true) := by kernel_rfl
--FIN galive | besom/besomlaw04.alive |  |  | b1 true
theorem galive_fin  (hs : ∀ qSm ∈ ([] : List AVal), Sm qSm) : ∃ N n, ∀ α (k : AOut → Option α), evFn real tab ((twY fsGo spG).env real tab N n) N Tryz.f12 α [] k = k (b1 true) := by
  exact ⟨110, 20, fun α k => galive_text α k⟩
--CON galive
noncomputable def galiveS : Fsp := fun _ args k => match args with
  | [] => k (b1 true)
  | _ => none
theorem galiveS_ok : FspOk Tryz.prog 12 galiveS := tower_Y fsGo_ok spG_ok ⟨Tryz.func12, fun _ _ => by kernel_rfl⟩ (by intro α args k; unfold galiveS; split <;> rfl) fun args out hSm hEq => by
  unfold galiveS at hEq
  split at hEq
  · skip
    obtain ⟨N, n, e⟩ := galive_fin  hSm
    exact ⟨N, n, (e AOut some).trans hEq⟩
  · cases hEq
--END
noncomputable def fsGp : FuncId → Option Fsp := fun g =>
  if g = 12 then some galiveS else
  if g = 31 then some (evY 110 20 Tryz.f31) else
  if g = 36 then some (evY 110 20 Tryz.f36) else
  fsGo g
theorem fsGp_ok : FsOk fsGp :=
  fs_cons galiveS_ok <|
  fs_cons (evY_ok ⟨Tryz.func31, fun _ _ => by kernel_rfl⟩ 110 20) <|
  fs_cons (evY_ok ⟨Tryz.func36, fun _ _ => by kernel_rfl⟩ 110 20) <|
  fsGo_ok
set_option maxRecDepth 100000 in
theorem gnames_text : evFn real tab ((twY fsGp spG).env real tab 110 20) 110 Tryz.f11 AOut [] some = some (b1 true) := by kernel_rfl
def gnamesF : List AVal → Option AOut
  | [] => some (b1 true)
  | _ => none
theorem gnames_ok : FspOk Tryz.prog 11 (toFsp gnamesF) := tower_Y fsGp_ok spG_ok ⟨Tryz.func11, fun _ _ => by kernel_rfl⟩ (toFsp_nat _) fun args out hSm hq => by
  replace hq := toFsp_some hq
  unfold gnamesF at hq
  split at hq
  · cases hq
    exact ⟨110, 20, gnames_text⟩
  · cases hq
end Go.Proofs.YtgpljldfbhkdlaaGreat

/- GlideTicks: it answers true. -/
namespace Go.Proofs.YtgpljldfbhkdlaaGreat
open Go.RowKit

--FS fsGt | fsG6 | galive=besom/besomlaw04.alive;rTick=besom/besomref04.Tick;rStr=besom/besomref04.Strength;rmov=besom/besomref04.Moving;rbrs=besom/besomref04.Brooms
noncomputable def fsGt : FuncId → Option Fsp := fun g =>
  if g = 12 then some galiveS else
  if g = 22 then some rTickS else
  if g = 21 then some rStrS else
  if g = 62 then some rmovS else
  if g = 55 then some rbrsS else
  fsG6 g
theorem fsGt_ok : FsOk fsGt :=
  fs_cons galiveS_ok <|
  fs_cons rTickS_ok <|
  fs_cons rStrS_ok <|
  fs_cons rmovS_ok <|
  fs_cons rbrsS_ok <|
  fsG6_ok
--END
--AT fsGt spL twV
--TEXT gticks | twV fsGt spL | 8 | besom/besomlaw04.GlideTicks | $ICB $GB $MB (l : List BrI) (t u : Int) | $SH, $MO, .ro $BSH l, .int .i64 t, .int .i64 u
--KEY 1196af8fdc
set_option maxRecDepth 100000 in
theorem gticks_text (N n0 : Nat) (α : Type) (cx cy sd w h : Int) (pb po : List Int) (fl ke sw be we : Int) (ax ay vx vy sp : Int) (l : List BrI) (t u : Int) (k : AOut → Option α) : evFn real tab ((twV fsGt spL).env real tab N (n0 + 8)) N Tryz.f8 α [.agg [.int .i64 cx, .int .i64 cy, .int .i64 sd, .int .i64 w, .int .i64 h, .ro (.int .i64) pb, .ro (.int .i64) po, .int .i64 fl, .int .i64 ke, .int .i64 sw, .int .i64 be, .int .i64 we], .agg [.int .i64 ax, .int .i64 ay, .int .i64 vx, .int .i64 vy, .int .i64 sp], .ro (.recd (.cons (.int .i64) (.cons (.int .i64) (.cons (.int .i64) .nil)))) l, .int .i64 t, .int .i64 u] k =
  bif decide ((↑pb.length : Int) > 400) then k (AOut.ret (AVal.bool true))
  else
    bif decide ((↑po.length : Int) > 400) then k (AOut.ret (AVal.bool true))
    else
      bif decide ((↑l.length : Int) > 66) then k (AOut.ret (AVal.bool true))
      else
        bif movB ax ay vx vy sp then
          bif er2 (movB ax ay vx vy sp) == 0 then
            bif brsB l then
              bif er2 (brsB l) == 0 then
                bif selI (brsB l && tckB t) (strN l t) == selI (brsB l && tckB t) (strN l t) then
                  bif er2 (brsB l && tckB t) == er2 (brsB l && tckB t) then
                    bif
                        tsA (rgtB cx cy sd w h pb po fl ke sw be we ax ay vx vy sp u)
                                (slwV cx cy sd w h pb po fl ke sw be we ax ay)
                                (bdvV cx cy sd w h pb po fl ke sw be we ax ay) ax ay vx vy sp u ==
                              tsA (rgtB cx cy sd w h pb po fl ke sw be we ax ay vx vy sp u)
                                (slwV cx cy sd w h pb po fl ke sw be we ax ay)
                                (bdvV cx cy sd w h pb po fl ke sw be we ax ay) ax ay vx vy sp u &&
                            (tsB (rgtB cx cy sd w h pb po fl ke sw be we ax ay vx vy sp u)
                                  (slwV cx cy sd w h pb po fl ke sw be we ax ay)
                                  (bdvV cx cy sd w h pb po fl ke sw be we ax ay) ax ay vx vy sp u ==
                                tsB (rgtB cx cy sd w h pb po fl ke sw be we ax ay vx vy sp u)
                                  (slwV cx cy sd w h pb po fl ke sw be we ax ay)
                                  (bdvV cx cy sd w h pb po fl ke sw be we ax ay) ax ay vx vy sp u &&
                              true) &&
                          (tsC (rgtB cx cy sd w h pb po fl ke sw be we ax ay vx vy sp u)
                                  (slwV cx cy sd w h pb po fl ke sw be we ax ay)
                                  (bdvV cx cy sd w h pb po fl ke sw be we ax ay) ax ay vx vy sp u ==
                                tsC (rgtB cx cy sd w h pb po fl ke sw be we ax ay vx vy sp u)
                                  (slwV cx cy sd w h pb po fl ke sw be we ax ay)
                                  (bdvV cx cy sd w h pb po fl ke sw be we ax ay) ax ay vx vy sp u &&
                              (tsD (rgtB cx cy sd w h pb po fl ke sw be we ax ay vx vy sp u)
                                    (slwV cx cy sd w h pb po fl ke sw be we ax ay)
                                    (bdvV cx cy sd w h pb po fl ke sw be we ax ay) ax ay vx vy sp u ==
                                  tsD (rgtB cx cy sd w h pb po fl ke sw be we ax ay vx vy sp u)
                                    (slwV cx cy sd w h pb po fl ke sw be we ax ay)
                                    (bdvV cx cy sd w h pb po fl ke sw be we ax ay) ax ay vx vy sp u &&
                                true) &&
                            (tsE (rgtB cx cy sd w h pb po fl ke sw be we ax ay vx vy sp u)
                                  (slwV cx cy sd w h pb po fl ke sw be we ax ay)
                                  (bdvV cx cy sd w h pb po fl ke sw be we ax ay) ax ay vx vy sp u ==
                                tsE (rgtB cx cy sd w h pb po fl ke sw be we ax ay vx vy sp u)
                                  (slwV cx cy sd w h pb po fl ke sw be we ax ay)
                                  (bdvV cx cy sd w h pb po fl ke sw be we ax ay) ax ay vx vy sp u &&
                              true)) then
                      bif
                          tsZ (rgtB cx cy sd w h pb po fl ke sw be we ax ay vx vy sp u)
                              (slwV cx cy sd w h pb po fl ke sw be we ax ay)
                              (bdvV cx cy sd w h pb po fl ke sw be we ax ay) ax ay vx vy sp u ==
                            tsZ (rgtB cx cy sd w h pb po fl ke sw be we ax ay vx vy sp u)
                              (slwV cx cy sd w h pb po fl ke sw be we ax ay)
                              (bdvV cx cy sd w h pb po fl ke sw be we ax ay) ax ay vx vy sp u then
                        k (AOut.ret (AVal.bool true))
                      else k (AOut.ret (AVal.bool false))
                    else k (AOut.ret (AVal.bool false))
                  else k (AOut.ret (AVal.bool false))
                else k (AOut.ret (AVal.bool false))
              else k (AOut.ret (AVal.bool false))
            else
              bif er2 (brsB l) == 2 then
                bif selI (brsB l && tckB t) (strN l t) == selI (brsB l && tckB t) (strN l t) then
                  bif er2 (brsB l && tckB t) == er2 (brsB l && tckB t) then
                    bif
                        tsA (rgtB cx cy sd w h pb po fl ke sw be we ax ay vx vy sp u)
                                (slwV cx cy sd w h pb po fl ke sw be we ax ay)
                                (bdvV cx cy sd w h pb po fl ke sw be we ax ay) ax ay vx vy sp u ==
                              tsA (rgtB cx cy sd w h pb po fl ke sw be we ax ay vx vy sp u)
                                (slwV cx cy sd w h pb po fl ke sw be we ax ay)
                                (bdvV cx cy sd w h pb po fl ke sw be we ax ay) ax ay vx vy sp u &&
                            (tsB (rgtB cx cy sd w h pb po fl ke sw be we ax ay vx vy sp u)
                                  (slwV cx cy sd w h pb po fl ke sw be we ax ay)
                                  (bdvV cx cy sd w h pb po fl ke sw be we ax ay) ax ay vx vy sp u ==
                                tsB (rgtB cx cy sd w h pb po fl ke sw be we ax ay vx vy sp u)
                                  (slwV cx cy sd w h pb po fl ke sw be we ax ay)
                                  (bdvV cx cy sd w h pb po fl ke sw be we ax ay) ax ay vx vy sp u &&
                              true) &&
                          (tsC (rgtB cx cy sd w h pb po fl ke sw be we ax ay vx vy sp u)
                                  (slwV cx cy sd w h pb po fl ke sw be we ax ay)
                                  (bdvV cx cy sd w h pb po fl ke sw be we ax ay) ax ay vx vy sp u ==
                                tsC (rgtB cx cy sd w h pb po fl ke sw be we ax ay vx vy sp u)
                                  (slwV cx cy sd w h pb po fl ke sw be we ax ay)
                                  (bdvV cx cy sd w h pb po fl ke sw be we ax ay) ax ay vx vy sp u &&
                              (tsD (rgtB cx cy sd w h pb po fl ke sw be we ax ay vx vy sp u)
                                    (slwV cx cy sd w h pb po fl ke sw be we ax ay)
                                    (bdvV cx cy sd w h pb po fl ke sw be we ax ay) ax ay vx vy sp u ==
                                  tsD (rgtB cx cy sd w h pb po fl ke sw be we ax ay vx vy sp u)
                                    (slwV cx cy sd w h pb po fl ke sw be we ax ay)
                                    (bdvV cx cy sd w h pb po fl ke sw be we ax ay) ax ay vx vy sp u &&
                                true) &&
                            (tsE (rgtB cx cy sd w h pb po fl ke sw be we ax ay vx vy sp u)
                                  (slwV cx cy sd w h pb po fl ke sw be we ax ay)
                                  (bdvV cx cy sd w h pb po fl ke sw be we ax ay) ax ay vx vy sp u ==
                                tsE (rgtB cx cy sd w h pb po fl ke sw be we ax ay vx vy sp u)
                                  (slwV cx cy sd w h pb po fl ke sw be we ax ay)
                                  (bdvV cx cy sd w h pb po fl ke sw be we ax ay) ax ay vx vy sp u &&
                              true)) then
                      bif
                          tsZ (rgtB cx cy sd w h pb po fl ke sw be we ax ay vx vy sp u)
                              (slwV cx cy sd w h pb po fl ke sw be we ax ay)
                              (bdvV cx cy sd w h pb po fl ke sw be we ax ay) ax ay vx vy sp u ==
                            tsZ (rgtB cx cy sd w h pb po fl ke sw be we ax ay vx vy sp u)
                              (slwV cx cy sd w h pb po fl ke sw be we ax ay)
                              (bdvV cx cy sd w h pb po fl ke sw be we ax ay) ax ay vx vy sp u then
                        k (AOut.ret (AVal.bool true))
                      else k (AOut.ret (AVal.bool false))
                    else k (AOut.ret (AVal.bool false))
                  else k (AOut.ret (AVal.bool false))
                else k (AOut.ret (AVal.bool false))
              else k (AOut.ret (AVal.bool false))
          else k (AOut.ret (AVal.bool false))
        else
          bif er2 (movB ax ay vx vy sp) == 2 then
            bif brsB l then
              bif er2 (brsB l) == 0 then
                bif selI (brsB l && tckB t) (strN l t) == selI (brsB l && tckB t) (strN l t) then
                  bif er2 (brsB l && tckB t) == er2 (brsB l && tckB t) then
                    bif
                        tsA (rgtB cx cy sd w h pb po fl ke sw be we ax ay vx vy sp u)
                                (slwV cx cy sd w h pb po fl ke sw be we ax ay)
                                (bdvV cx cy sd w h pb po fl ke sw be we ax ay) ax ay vx vy sp u ==
                              tsA (rgtB cx cy sd w h pb po fl ke sw be we ax ay vx vy sp u)
                                (slwV cx cy sd w h pb po fl ke sw be we ax ay)
                                (bdvV cx cy sd w h pb po fl ke sw be we ax ay) ax ay vx vy sp u &&
                            (tsB (rgtB cx cy sd w h pb po fl ke sw be we ax ay vx vy sp u)
                                  (slwV cx cy sd w h pb po fl ke sw be we ax ay)
                                  (bdvV cx cy sd w h pb po fl ke sw be we ax ay) ax ay vx vy sp u ==
                                tsB (rgtB cx cy sd w h pb po fl ke sw be we ax ay vx vy sp u)
                                  (slwV cx cy sd w h pb po fl ke sw be we ax ay)
                                  (bdvV cx cy sd w h pb po fl ke sw be we ax ay) ax ay vx vy sp u &&
                              true) &&
                          (tsC (rgtB cx cy sd w h pb po fl ke sw be we ax ay vx vy sp u)
                                  (slwV cx cy sd w h pb po fl ke sw be we ax ay)
                                  (bdvV cx cy sd w h pb po fl ke sw be we ax ay) ax ay vx vy sp u ==
                                tsC (rgtB cx cy sd w h pb po fl ke sw be we ax ay vx vy sp u)
                                  (slwV cx cy sd w h pb po fl ke sw be we ax ay)
                                  (bdvV cx cy sd w h pb po fl ke sw be we ax ay) ax ay vx vy sp u &&
                              (tsD (rgtB cx cy sd w h pb po fl ke sw be we ax ay vx vy sp u)
                                    (slwV cx cy sd w h pb po fl ke sw be we ax ay)
                                    (bdvV cx cy sd w h pb po fl ke sw be we ax ay) ax ay vx vy sp u ==
                                  tsD (rgtB cx cy sd w h pb po fl ke sw be we ax ay vx vy sp u)
                                    (slwV cx cy sd w h pb po fl ke sw be we ax ay)
                                    (bdvV cx cy sd w h pb po fl ke sw be we ax ay) ax ay vx vy sp u &&
                                true) &&
                            (tsE (rgtB cx cy sd w h pb po fl ke sw be we ax ay vx vy sp u)
                                  (slwV cx cy sd w h pb po fl ke sw be we ax ay)
                                  (bdvV cx cy sd w h pb po fl ke sw be we ax ay) ax ay vx vy sp u ==
                                tsE (rgtB cx cy sd w h pb po fl ke sw be we ax ay vx vy sp u)
                                  (slwV cx cy sd w h pb po fl ke sw be we ax ay)
                                  (bdvV cx cy sd w h pb po fl ke sw be we ax ay) ax ay vx vy sp u &&
                              true)) then
                      bif
                          tsZ (rgtB cx cy sd w h pb po fl ke sw be we ax ay vx vy sp u)
                              (slwV cx cy sd w h pb po fl ke sw be we ax ay)
                              (bdvV cx cy sd w h pb po fl ke sw be we ax ay) ax ay vx vy sp u ==
                            tsZ (rgtB cx cy sd w h pb po fl ke sw be we ax ay vx vy sp u)
                              (slwV cx cy sd w h pb po fl ke sw be we ax ay)
                              (bdvV cx cy sd w h pb po fl ke sw be we ax ay) ax ay vx vy sp u then
                        k (AOut.ret (AVal.bool true))
                      else k (AOut.ret (AVal.bool false))
                    else k (AOut.ret (AVal.bool false))
                  else k (AOut.ret (AVal.bool false))
                else k (AOut.ret (AVal.bool false))
              else k (AOut.ret (AVal.bool false))
            else
              bif er2 (brsB l) == 2 then
                bif selI (brsB l && tckB t) (strN l t) == selI (brsB l && tckB t) (strN l t) then
                  bif er2 (brsB l && tckB t) == er2 (brsB l && tckB t) then
                    bif
                        tsA (rgtB cx cy sd w h pb po fl ke sw be we ax ay vx vy sp u)
                                (slwV cx cy sd w h pb po fl ke sw be we ax ay)
                                (bdvV cx cy sd w h pb po fl ke sw be we ax ay) ax ay vx vy sp u ==
                              tsA (rgtB cx cy sd w h pb po fl ke sw be we ax ay vx vy sp u)
                                (slwV cx cy sd w h pb po fl ke sw be we ax ay)
                                (bdvV cx cy sd w h pb po fl ke sw be we ax ay) ax ay vx vy sp u &&
                            (tsB (rgtB cx cy sd w h pb po fl ke sw be we ax ay vx vy sp u)
                                  (slwV cx cy sd w h pb po fl ke sw be we ax ay)
                                  (bdvV cx cy sd w h pb po fl ke sw be we ax ay) ax ay vx vy sp u ==
                                tsB (rgtB cx cy sd w h pb po fl ke sw be we ax ay vx vy sp u)
                                  (slwV cx cy sd w h pb po fl ke sw be we ax ay)
                                  (bdvV cx cy sd w h pb po fl ke sw be we ax ay) ax ay vx vy sp u &&
                              true) &&
                          (tsC (rgtB cx cy sd w h pb po fl ke sw be we ax ay vx vy sp u)
                                  (slwV cx cy sd w h pb po fl ke sw be we ax ay)
                                  (bdvV cx cy sd w h pb po fl ke sw be we ax ay) ax ay vx vy sp u ==
                                tsC (rgtB cx cy sd w h pb po fl ke sw be we ax ay vx vy sp u)
                                  (slwV cx cy sd w h pb po fl ke sw be we ax ay)
                                  (bdvV cx cy sd w h pb po fl ke sw be we ax ay) ax ay vx vy sp u &&
                              (tsD (rgtB cx cy sd w h pb po fl ke sw be we ax ay vx vy sp u)
                                    (slwV cx cy sd w h pb po fl ke sw be we ax ay)
                                    (bdvV cx cy sd w h pb po fl ke sw be we ax ay) ax ay vx vy sp u ==
                                  tsD (rgtB cx cy sd w h pb po fl ke sw be we ax ay vx vy sp u)
                                    (slwV cx cy sd w h pb po fl ke sw be we ax ay)
                                    (bdvV cx cy sd w h pb po fl ke sw be we ax ay) ax ay vx vy sp u &&
                                true) &&
                            (tsE (rgtB cx cy sd w h pb po fl ke sw be we ax ay vx vy sp u)
                                  (slwV cx cy sd w h pb po fl ke sw be we ax ay)
                                  (bdvV cx cy sd w h pb po fl ke sw be we ax ay) ax ay vx vy sp u ==
                                tsE (rgtB cx cy sd w h pb po fl ke sw be we ax ay vx vy sp u)
                                  (slwV cx cy sd w h pb po fl ke sw be we ax ay)
                                  (bdvV cx cy sd w h pb po fl ke sw be we ax ay) ax ay vx vy sp u &&
                              true)) then
                      bif
                          tsZ (rgtB cx cy sd w h pb po fl ke sw be we ax ay vx vy sp u)
                              (slwV cx cy sd w h pb po fl ke sw be we ax ay)
                              (bdvV cx cy sd w h pb po fl ke sw be we ax ay) ax ay vx vy sp u ==
                            tsZ (rgtB cx cy sd w h pb po fl ke sw be we ax ay vx vy sp u)
                              (slwV cx cy sd w h pb po fl ke sw be we ax ay)
                              (bdvV cx cy sd w h pb po fl ke sw be we ax ay) ax ay vx vy sp u then
                        k (AOut.ret (AVal.bool true))
                      else k (AOut.ret (AVal.bool false))
                    else k (AOut.ret (AVal.bool false))
                  else k (AOut.ret (AVal.bool false))
                else k (AOut.ret (AVal.bool false))
              else k (AOut.ret (AVal.bool false))
          else k (AOut.ret (AVal.bool false)) := by kernel_rfl
--END
--END
theorem gticks_true (cx cy sd w h : Int) (pb po : List Int) (fl ke sw be we : Int) (ax ay vx vy sp : Int) (l : List BrI) (t u : Int) : evFn real tab ((twV fsGt spL).env real tab 8 8) 8 Tryz.f8 AOut [.agg [.int .i64 cx, .int .i64 cy, .int .i64 sd, .int .i64 w, .int .i64 h, .ro (.int .i64) pb, .ro (.int .i64) po, .int .i64 fl, .int .i64 ke, .int .i64 sw, .int .i64 be, .int .i64 we], .agg [.int .i64 ax, .int .i64 ay, .int .i64 vx, .int .i64 vy, .int .i64 sp], .ro (.recd (.cons (.int .i64) (.cons (.int .i64) (.cons (.int .i64) .nil)))) l, .int .i64 t, .int .i64 u] some = some (b1 true) := by
  refine (gticks_text 8 0 AOut cx cy sd w h pb po fl ke sw be we ax ay vx vy sp l t u some).trans ?_
  by_cases h1 : (pb.length : Int) > 400
  · rw [decide_eq_true h1]; rfl
  by_cases h2 : (po.length : Int) > 400
  · rw [decide_eq_false h1, decide_eq_true h2]; rfl
  by_cases h3 : (l.length : Int) > 66
  · rw [decide_eq_false h1, decide_eq_false h2, decide_eq_true h3]; rfl
  rw [decide_eq_false h1, decide_eq_false h2, decide_eq_false h3, er2_0, er2_0]
  cases movB ax ay vx vy sp <;> cases brsB l <;> simp only [BEq.rfl, Bool.and_self, cond_true, cond_false] <;> rfl
def gticksF : List AVal → Option AOut
  | [.agg [.int .i64 cx, .int .i64 cy, .int .i64 sd, .int .i64 w, .int .i64 h, .ro (.int .i64) pb, .ro (.int .i64) po, .int .i64 fl, .int .i64 ke, .int .i64 sw, .int .i64 be, .int .i64 we], .agg [.int .i64 ax, .int .i64 ay, .int .i64 vx, .int .i64 vy, .int .i64 sp], .ro (.recd (.cons (.int .i64) (.cons (.int .i64) (.cons (.int .i64) .nil)))) l, .int .i64 t, .int .i64 u] => some (b1 true)
  | _ => none
theorem gticks_ok : FspOk Tryz.prog 8 (toFsp gticksF) := tower_V fsGt_ok spL_ok ⟨Tryz.func8, fun _ _ => by kernel_rfl⟩ (toFsp_nat _) fun args out hSm hq => by
  replace hq := toFsp_some hq
  unfold gticksF at hq
  split at hq
  · rename_i cx cy sd w h pb po fl ke sw be we ax ay vx vy sp l t u
    cases hq
    exact ⟨8, 8, gticks_true cx cy sd w h pb po fl ke sw be we ax ay vx vy sp l t u⟩
  · cases hq
end Go.Proofs.YtgpljldfbhkdlaaGreat
