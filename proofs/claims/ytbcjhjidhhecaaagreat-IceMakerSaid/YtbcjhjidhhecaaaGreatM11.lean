/- Parts of the proof, in build order. -/
import Derived.Test.YtbcjhjidhhecaaaGreatM10
import Derived.Test.YtbcjhjidhhecaaaGreatM9
/- The reference's ice: faded, scraped, sprayed; the mean. -/
namespace Go.Proofs.YtbcjhjidhhecaaaGreat
open Go.RowKit

abbrev St2 : Type := List Int × List Int × Int × Unit
section
variable {σ α : Type}
def bxG (cx cy sd w x y u v : Int) (bd gc : σ → Int) (nx : σ → σ) (hk : σ → Option (LRes σ α)) (z : σ) : Option (LRes σ α) :=
  bif decide (gc z < bd z) then
    if w = 0 then none else if w = 0 then none
    else
      bif decide (lwX cx sd w (gc z) ≥ x) then
        bif decide (lwY cy sd w (gc z) ≥ y) then
          bif decide (hgX cx sd w (gc z) ≤ u) then
            bif decide (hgY cy sd w (gc z) ≤ v) then hk z
            else some (LRes.cont (nx z))
          else some (LRes.cont (nx z))
        else some (LRes.cont (nx z))
      else some (LRes.cont (nx z))
  else some (LRes.brk 0 z)
theorem bxG_loop (cx cy sd w h : Int) (pb po : List Int) (x y u v : Int) (g : IceIs cx cy sd w h pb po) (bd gc : σ → Int) (nx : σ → σ) (hk : σ → Option (LRes σ α)) (st : Nat → σ) (h0 : ∀ i, gc (st i) = i) (hb : ∀ i, bd (st i) = w * h) (h1 : ∀ i, i < cels w h → inBx cx cy sd w x y u v i = true → hk (st i) = some (.cont (st (i + 1)))) (h2 : ∀ i, i < cels w h → inBx cx cy sd w x y u v i = false → nx (st i) = st (i + 1)) (K : Nat → σ → Option α) {N : Nat} (hN : cels w h < N) :
    afterL (iterL N (bxG cx cy sd w x y u v bd gc nx hk) (st 0)) K = K 0 (st (cels w h)) := by
  obtain ⟨c1, c2⟩ := cels_le g.fw g.fh
  refine Eq.trans ?_ (bx_loop cx cy sd w h pb po x y u v g gc nx hk st h0 h1 h2 K hN)
  have gw := g.fw
  refine (count_loop (f := bxG cx cy sd w x y u v bd gc nx hk) (K := K) st (cels w h) (b := 0) (y := st (cels w h)) (fun i hi => ?_) ?_ hN).trans (bx_loop cx cy sd w h pb po x y u v g gc nx hk st h0 h1 h2 K hN).symm
  · have key : bxG cx cy sd w x y u v bd gc nx hk (st i) = bxF cx cy sd w h x y u v gc nx hk (st i) := by
      unfold bxG bxF
      rw [hb i, i64_in (w * h) (by omega)]
    rw [key]
    obtain ⟨e1, e2, e3, e4⟩ := lw_eq g.fc g.fs g.fw g.fh (show (0 : Int) ≤ i by omega) (show (i : Int) < w * h by omega)
    unfold bxF
    rw [h0 i, e1, e2, e3, e4, i64_in (w * h) (by omega), decide_eq_true (show (i : Int) < w * h by omega), cond_true, if_neg (by omega), if_neg (by omega)]
    have a1 := h1 i hi
    have a2 := h2 i hi
    show (bif decide (x ≤ cx + (i : Int) % w * sd) then bif decide (y ≤ cy + (i : Int) / w * sd) then bif decide (cx + (i : Int) % w * sd + sd ≤ u) then bif decide (cy + (i : Int) / w * sd + sd ≤ v) then _ else _ else _ else _ else _) = _
    unfold inBx at a1 a2
    revert a1 a2
    cases decide (x ≤ cx + (i : Int) % w * sd) <;> cases decide (y ≤ cy + (i : Int) / w * sd) <;> cases decide (cx + (i : Int) % w * sd + sd ≤ u) <;> cases decide (cy + (i : Int) / w * sd + sd ≤ v) <;> intro a1 a2 <;> first | exact a1 rfl | (simp only [cond_true, cond_false]; rw [a2 rfl])
  · unfold bxG
    rw [h0, hb, decide_eq_false (by omega)]
    rfl
end
abbrev nx2 : St2 → St2 := fun z => (z.1, z.2.1, IntKind.i64.wrap (z.2.2.1 + 1), ())
def in2 {β : Type} (c : Int) (l : List Int) (r : Option β) : Option β := if 0 ≤ c ∧ c < (l.length : Int) then r else none
theorem in2_pos {β : Type} {c : Int} {l : List Int} (h : 0 ≤ c ∧ c < (l.length : Int)) (r : Option β) : in2 c l r = r := if_pos h
def scrK {α : Type} (b : Int) (z : St2) : Option (LRes St2 α) :=
  in2 z.2.2.1 z.1 (in2 z.2.2.1 z.1 (in2 z.2.2.1 z.2.1 (some (LRes.cont (z.1.set z.2.2.1.toNat (capV (z.1.getD z.2.2.1.toNat 0) b), z.2.1.set z.2.2.1.toNat 0, IntKind.i64.wrap (z.2.2.1 + 1), ())))))
def spK2 {α : Type} (w tn b : Int) (z : St2) : Option (LRes St2 α) :=
  if w = 0 then none else if w = 0 then none
  else bif (IntKind.i64.wrap (IntKind.i64.wrap (z.2.2.1.tmod w + IntKind.i64.wrap (z.2.2.1.tdiv w)) + tn)).tmod 2 == 0 then
    in2 z.2.2.1 z.1 (in2 z.2.2.1 z.1 (some (LRes.cont (z.1.set z.2.2.1.toNat (moreV (z.1.getD z.2.2.1.toNat 0) b), z.2.1, IntKind.i64.wrap (z.2.2.1 + 1), ()))))
  else some (LRes.cont (nx2 z))
def rfdF {α : Type} (b : Int) (z : St2) : Option (LRes St2 α) :=
  bif decide (z.2.2.1 < (z.2.1.length : Int)) then
    in2 z.2.2.1 z.2.1 (in2 z.2.2.1 z.2.1 (some (LRes.cont (z.1, z.2.1.set z.2.2.1.toNat (wornV (z.2.1.getD z.2.2.1.toNat 0) b), IntKind.i64.wrap (z.2.2.1 + 1), ()))))
  else some (LRes.brk 0 (z.1, z.2.1, z.2.2.1, ()))
def rmeK {α : Type} (pb : List Int) (z : Int × Int × Int × Unit) : Option (LRes (Int × Int × Int × Unit) α) :=
  in2 z.2.2.1 pb (some (LRes.cont (IntKind.i64.wrap (z.1 + pb.getD z.2.2.1.toNat 0), IntKind.i64.wrap (z.2.1 + 1), IntKind.i64.wrap (z.2.2.1 + 1), ())))
/-- Both lists in memory of their own. -/
def cop2 {α : Type} (pb po : List Int) (r : Option α) : Option α := if ((List.nil (α := Int)).length + pb.length) * 8 ≤ room then if ((List.nil (α := Int)).length + po.length) * 8 ≤ room then r else none else none
theorem cop2_pos {α : Type} {pb po : List Int} (h1 : pb.length ≤ 65536) (h2 : po.length ≤ 65536) (r : Option α) : cop2 pb po r = r := by
  unfold cop2
  rw [if_pos (by simp [room]; omega), if_pos (by simp [room]; omega)]
--AT fnR1 spL twY
set_option maxRecDepth 100000 in
theorem rfade_text (N n0 : Nat) (α : Type) (cx cy sd w h : Int) (pb po : List Int) (b : Int) (k : AOut → Option α) : evFn real tab ((twY fnR1 spL).env real tab N (n0 + 8)) N Tryz.f31 α [.agg [.int .i64 cx, .int .i64 cy, .int .i64 sd, .int .i64 w, .int .i64 h, .ro (.int .i64) pb, .ro (.int .i64) po], .int .i64 b] k =
    bif !iceB cx cy sd w h pb po then k icN else bif decide (0 ≤ b) then bif !decide (b ≤ 1000) then k icN
    else cop2 pb po (afterL (iterL N (rfdF b) ((List.nil (α := Int)) ++ pb, (List.nil (α := Int)) ++ po, 0, ())) fun id z => if id = 0 then k (icO cx cy sd w h z.1 z.2.1) else none)
    else k icN := by kernel_rfl
set_option maxRecDepth 100000 in
theorem rscrape_text (N n0 : Nat) (α : Type) (cx cy sd w h : Int) (pb po : List Int) (x y u v b : Int) (k : AOut → Option α) : evFn real tab ((twY fnR1 spL).env real tab N (n0 + 8)) N Tryz.f33 α [.agg [.int .i64 cx, .int .i64 cy, .int .i64 sd, .int .i64 w, .int .i64 h, .ro (.int .i64) pb, .ro (.int .i64) po], .agg [.int .i64 x, .int .i64 y], .agg [.int .i64 u, .int .i64 v], .int .i64 b] k =
    bif iceB cx cy sd w h pb po then bif plcB x y then bif plcB u v then bif decide (x ≤ u) then bif !decide (y ≤ v) then k icN
    else bif decide (0 ≤ b) then bif !decide (b ≤ 1000) then k icN
    else cop2 pb po (afterL (iterL N (bxG cx cy sd w x y u v (fun z : St2 => (z.1.length : Int)) (fun z => z.2.2.1) nx2 (scrK b)) ((List.nil (α := Int)) ++ pb, (List.nil (α := Int)) ++ po, 0, ())) fun id z => if id = 0 then k (icO cx cy sd w h z.1 z.2.1) else none)
    else k icN else k icN else k icN else k icN else k icN := by kernel_rfl
set_option maxRecDepth 100000 in
theorem rspray_text (N n0 : Nat) (α : Type) (cx cy sd w h : Int) (pb po : List Int) (x y u v b tn : Int) (k : AOut → Option α) : evFn real tab ((twY fnR1 spL).env real tab N (n0 + 8)) N Tryz.f35 α [.agg [.int .i64 cx, .int .i64 cy, .int .i64 sd, .int .i64 w, .int .i64 h, .ro (.int .i64) pb, .ro (.int .i64) po], .agg [.int .i64 x, .int .i64 y], .agg [.int .i64 u, .int .i64 v], .int .i64 b, .int .i64 tn] k =
    bif iceB cx cy sd w h pb po then bif plcB x y then bif plcB u v then bif decide (x ≤ u) then bif !decide (y ≤ v) then k icN
    else bif decide (0 ≤ b) then bif !decide (b ≤ 1000) then k icN
    else bif decide (0 ≤ tn) then bif !decide (tn ≤ 1) then k icN
    else cop2 pb po (afterL (iterL N (bxG cx cy sd w x y u v (fun z : St2 => (z.1.length : Int)) (fun z => z.2.2.1) nx2 (spK2 w tn b)) ((List.nil (α := Int)) ++ pb, (List.nil (α := Int)) ++ po, 0, ())) fun id z => if id = 0 then k (icO cx cy sd w h z.1 z.2.1) else none)
    else k icN else k icN else k icN else k icN else k icN else k icN := by kernel_rfl
set_option maxRecDepth 100000 in
theorem rmean_text (N n0 : Nat) (α : Type) (cx cy sd w h : Int) (pb po : List Int) (x y u v : Int) (k : AOut → Option α) : evFn real tab ((twY fnR1 spL).env real tab N (n0 + 8)) N Tryz.f37 α [.agg [.int .i64 cx, .int .i64 cy, .int .i64 sd, .int .i64 w, .int .i64 h, .ro (.int .i64) pb, .ro (.int .i64) po], .agg [.int .i64 x, .int .i64 y], .agg [.int .i64 u, .int .i64 v]] k =
    bif iceB cx cy sd w h pb po then bif plcB x y then bif plcB u v then bif decide (x ≤ u) then bif !decide (y ≤ v) then k (i3 0 0 2)
    else afterL (iterL N (bxG cx cy sd w x y u v (fun _ : Int × Int × Int × Unit => (pb.length : Int)) (fun z => z.2.2.1) (fun z => (z.1, z.2.1, IntKind.i64.wrap (z.2.2.1 + 1), ())) (rmeK pb)) (0, 0, 0, ())) fun id z => if id = 0 then k (i3 z.1 z.2.1 0) else none
    else k (i3 0 0 2) else k (i3 0 0 2) else k (i3 0 0 2) else k (i3 0 0 2) := by kernel_rfl
--FIN rfade | besom/besomref03.Fade | $ICB (b : Int) | $ICE, $I{b} | icO cx cy sd w h pb (chgL (fun _ => true) (fun i => wornV i b) po) ?? iceB $ICV && grnB b :: icN
theorem rfade_fin (cx cy sd w h : Int) (pb po : List Int) (b : Int) (hs : ∀ qSm ∈ ([.agg [.int .i64 cx, .int .i64 cy, .int .i64 sd, .int .i64 w, .int .i64 h, .ro (.int .i64) pb, .ro (.int .i64) po], .int .i64 b] : List AVal), Sm qSm) : ∃ N n, ∀ α (k : AOut → Option α), evFn real tab ((twY fnR1 spL).env real tab N n) N Tryz.f31 α [.agg [.int .i64 cx, .int .i64 cy, .int .i64 sd, .int .i64 w, .int .i64 h, .ro (.int .i64) pb, .ro (.int .i64) po], .int .i64 b] k = bif iceB cx cy sd w h pb po && grnB b then k (icO cx cy sd w h pb (chgL (fun _ => true) (fun i => wornV i b) po)) else k (icN) := by
  refine ⟨65537, 8, fun α k => (rfade_text 65537 0 α cx cy sd w h pb po b k).trans ?_⟩
  unfold grnB
  cases hI : iceB cx cy sd w h pb po
  · rfl
  cases decide (0 ≤ b)
  · rfl
  cases decide (b ≤ 1000)
  · rfl
  have g := ice_is _ _ _ _ _ _ _ hI
  have l1 := list_ok g.fw g.fh g.pl
  have l2 := list_ok g.fw g.fh g.ol
  simp only [Bool.not_true, Bool.and_self, cond_false, cond_true]
  rw [cop2_pos l1.2 l2.2, List.nil_append, List.nil_append]
  have key := count_loop (f := rfdF b) (K := fun id (z : St2) => if id = 0 then k (icO cx cy sd w h z.1 z.2.1) else none) (fun i : Nat => (pb, foldC (fun _ => true) (updL fun i => wornV i b) po i, (i : Int), ())) po.length (b := 0) (y := (pb, foldC (fun _ => true) (updL fun i => wornV i b) po po.length, (po.length : Int), ())) (fun i hi => ?_) ?_ (N := 65537) (by omega)
  · rw [fold_chg, if_pos rfl] at key; exact key
  · have hl := fold_len (fun _ => true) (fun i => wornV i b) po i
    unfold rfdF
    simp only
    rw [decide_eq_true (show (i : Int) < ((foldC (fun _ => true) (updL fun i => wornV i b) po i).length : Int) by omega), cond_true, in2_pos ⟨by omega, by omega⟩, in2_pos ⟨by omega, by omega⟩, i64_in _ (by omega), Int.toNat_natCast]
    rfl
  · have hl := fold_len (fun _ => true) (fun i => wornV i b) po po.length
    unfold rfdF
    simp only
    rw [decide_eq_false (by omega)]
    rfl
--CON rfade
noncomputable def rfadeS : Fsp := fun _ args k => match args with
  | [.agg [.int .i64 cx, .int .i64 cy, .int .i64 sd, .int .i64 w, .int .i64 h, .ro (.int .i64) pb, .ro (.int .i64) po], .int .i64 b] => bif iceB cx cy sd w h pb po && grnB b then k (icO cx cy sd w h pb (chgL (fun _ => true) (fun i => wornV i b) po)) else k (icN)
  | _ => none
theorem rfadeS_ok : FspOk Tryz.prog 31 rfadeS := tower_Y fnR1_ok spL_ok ⟨Tryz.func31, fun _ _ => by kernel_rfl⟩ (by intro α args k; unfold rfadeS; split <;> simp only [cond_bind, Option.bind_some, Option.bind_none]) fun args out hSm hEq => by
  unfold rfadeS at hEq
  split at hEq
  · rename_i cx cy sd w h pb po b
    obtain ⟨N, n, e⟩ := rfade_fin cx cy sd w h pb po b hSm
    exact ⟨N, n, (e AOut some).trans hEq⟩
  · cases hEq
--END
--FIN rscrape | besom/besomref03.Scrape | $ICB (x y u v b : Int) | $ICE, $S{x y}, $S{u v}, $I{b} | icO cx cy sd w h (chgL (fun i => inBx cx cy sd w x y u v i && true) (fun i => capV i b) pb) (chgL (fun i => inBx cx cy sd w x y u v i && true) (fun _ => 0) po) ?? bxvB $ICV x y u v && grnB b :: icN
theorem rscrape_fin (cx cy sd w h : Int) (pb po : List Int) (x y u v b : Int) (hs : ∀ qSm ∈ ([.agg [.int .i64 cx, .int .i64 cy, .int .i64 sd, .int .i64 w, .int .i64 h, .ro (.int .i64) pb, .ro (.int .i64) po], .agg [.int .i64 x, .int .i64 y], .agg [.int .i64 u, .int .i64 v], .int .i64 b] : List AVal), Sm qSm) : ∃ N n, ∀ α (k : AOut → Option α), evFn real tab ((twY fnR1 spL).env real tab N n) N Tryz.f33 α [.agg [.int .i64 cx, .int .i64 cy, .int .i64 sd, .int .i64 w, .int .i64 h, .ro (.int .i64) pb, .ro (.int .i64) po], .agg [.int .i64 x, .int .i64 y], .agg [.int .i64 u, .int .i64 v], .int .i64 b] k = bif bxvB cx cy sd w h pb po x y u v && grnB b then k (icO cx cy sd w h (chgL (fun i => inBx cx cy sd w x y u v i && true) (fun i => capV i b) pb) (chgL (fun i => inBx cx cy sd w x y u v i && true) (fun _ => 0) po)) else k (icN) := by
  refine ⟨65537, 8, fun α k => (rscrape_text 65537 0 α cx cy sd w h pb po x y u v b k).trans ?_⟩
  unfold bxvB grnB
  cases hI : iceB cx cy sd w h pb po
  · rfl
  cases plcB x y
  · rfl
  cases plcB u v
  · rfl
  cases decide (x ≤ u)
  · rfl
  cases decide (y ≤ v)
  · rfl
  cases decide (0 ≤ b)
  · rfl
  cases decide (b ≤ 1000)
  · rfl
  have g := ice_is _ _ _ _ _ _ _ hI
  have l1 := list_ok g.fw g.fh g.pl
  have l2 := list_ok g.fw g.fh g.ol
  obtain ⟨c1, c2⟩ := cels_le g.fw g.fh
  have hpl := g.pl
  have hol := g.ol
  simp only [Bool.not_true, Bool.and_self, cond_false, cond_true]
  rw [cop2_pos l1.2 l2.2, List.nil_append, List.nil_append]
  have key := bxG_loop cx cy sd w h pb po x y u v g (fun z : St2 => (z.1.length : Int)) (fun z => z.2.2.1) nx2 (scrK b) (fun i : Nat => (foldC (fun i => inBx cx cy sd w x y u v i && true) (updL fun i => capV i b) pb i, foldC (fun i => inBx cx cy sd w x y u v i && true) (updL fun _ => 0) po i, (i : Int), ())) (fun i => rfl) (fun i => ?_) (fun i hi hh => ?_) (fun i hi hh => ?_) (fun id z => if id = 0 then k (icO cx cy sd w h z.1 z.2.1) else none) (N := 65537) (by omega)
  · rw [show cels w h = pb.length by omega] at key
    rw [fold_chg, show pb.length = po.length by omega, fold_chg, if_pos rfl] at key
    exact key
  · have := fold_len (fun i => inBx cx cy sd w x y u v i && true) (fun i => capV i b) pb i
    show (((foldC _ _ pb i).length : Nat) : Int) = w * h
    omega
  · have a1 := fold_len (fun i => inBx cx cy sd w x y u v i && true) (fun i => capV i b) pb i
    have a2 := fold_len (fun i => inBx cx cy sd w x y u v i && true) (fun _ => 0) po i
    unfold scrK
    simp only
    rw [in2_pos ⟨by omega, by omega⟩, in2_pos ⟨by omega, by omega⟩, in2_pos ⟨by omega, by omega⟩, i64_in _ (by omega), Int.toNat_natCast]
    simp only [foldC, hh, Bool.and_self, cond_true]
    rfl
  · show (_, _, IntKind.i64.wrap ((i : Int) + 1), ()) = _
    rw [i64_in _ (by omega)]
    simp only [foldC, hh, Bool.false_and, cond_false]
    rfl
--CON rscrape
noncomputable def rscrapeS : Fsp := fun _ args k => match args with
  | [.agg [.int .i64 cx, .int .i64 cy, .int .i64 sd, .int .i64 w, .int .i64 h, .ro (.int .i64) pb, .ro (.int .i64) po], .agg [.int .i64 x, .int .i64 y], .agg [.int .i64 u, .int .i64 v], .int .i64 b] => bif bxvB cx cy sd w h pb po x y u v && grnB b then k (icO cx cy sd w h (chgL (fun i => inBx cx cy sd w x y u v i && true) (fun i => capV i b) pb) (chgL (fun i => inBx cx cy sd w x y u v i && true) (fun _ => 0) po)) else k (icN)
  | _ => none
theorem rscrapeS_ok : FspOk Tryz.prog 33 rscrapeS := tower_Y fnR1_ok spL_ok ⟨Tryz.func33, fun _ _ => by kernel_rfl⟩ (by intro α args k; unfold rscrapeS; split <;> simp only [cond_bind, Option.bind_some, Option.bind_none]) fun args out hSm hEq => by
  unfold rscrapeS at hEq
  split at hEq
  · rename_i cx cy sd w h pb po x y u v b
    obtain ⟨N, n, e⟩ := rscrape_fin cx cy sd w h pb po x y u v b hSm
    exact ⟨N, n, (e AOut some).trans hEq⟩
  · cases hEq
--END
--FIN rspray | besom/besomref03.Spray | $ICB (x y u v b tn : Int) | $ICE, $S{x y}, $S{u v}, $I{b}, $I{tn} | icO cx cy sd w h (chgL (fun i => inBx cx cy sd w x y u v i && sprB w tn i) (fun i => moreV i b) pb) po ?? bxvB $ICV x y u v && (grnB b && (decide (0 ≤ tn) && decide (tn ≤ 1))) :: icN
theorem rspray_fin (cx cy sd w h : Int) (pb po : List Int) (x y u v b tn : Int) (hs : ∀ qSm ∈ ([.agg [.int .i64 cx, .int .i64 cy, .int .i64 sd, .int .i64 w, .int .i64 h, .ro (.int .i64) pb, .ro (.int .i64) po], .agg [.int .i64 x, .int .i64 y], .agg [.int .i64 u, .int .i64 v], .int .i64 b, .int .i64 tn] : List AVal), Sm qSm) : ∃ N n, ∀ α (k : AOut → Option α), evFn real tab ((twY fnR1 spL).env real tab N n) N Tryz.f35 α [.agg [.int .i64 cx, .int .i64 cy, .int .i64 sd, .int .i64 w, .int .i64 h, .ro (.int .i64) pb, .ro (.int .i64) po], .agg [.int .i64 x, .int .i64 y], .agg [.int .i64 u, .int .i64 v], .int .i64 b, .int .i64 tn] k = bif bxvB cx cy sd w h pb po x y u v && (grnB b && (decide (0 ≤ tn) && decide (tn ≤ 1))) then k (icO cx cy sd w h (chgL (fun i => inBx cx cy sd w x y u v i && sprB w tn i) (fun i => moreV i b) pb) po) else k (icN) := by
  refine ⟨65537, 8, fun α k => (rspray_text 65537 0 α cx cy sd w h pb po x y u v b tn k).trans ?_⟩
  unfold bxvB grnB
  cases hI : iceB cx cy sd w h pb po
  · rfl
  cases plcB x y
  · rfl
  cases plcB u v
  · rfl
  cases decide (x ≤ u)
  · rfl
  cases decide (y ≤ v)
  · rfl
  cases decide (0 ≤ b)
  · rfl
  cases decide (b ≤ 1000)
  · rfl
  cases h1 : decide (0 ≤ tn)
  · rfl
  cases h2 : decide (tn ≤ 1)
  · rfl
  have t1 := of_decide_eq_true h1
  have t2 := of_decide_eq_true h2
  have g := ice_is _ _ _ _ _ _ _ hI
  have l1 := list_ok g.fw g.fh g.pl
  have l2 := list_ok g.fw g.fh g.ol
  obtain ⟨c1, c2⟩ := cels_le g.fw g.fh
  have hpl := g.pl
  have gw := g.fw
  simp only [Bool.not_true, Bool.and_self, cond_false, cond_true]
  rw [cop2_pos l1.2 l2.2, List.nil_append, List.nil_append]
  have key := bxG_loop cx cy sd w h pb po x y u v g (fun z : St2 => (z.1.length : Int)) (fun z => z.2.2.1) nx2 (spK2 w tn b) (fun i : Nat => (foldC (fun i => inBx cx cy sd w x y u v i && sprB w tn i) (updL fun i => moreV i b) pb i, po, (i : Int), ())) (fun i => rfl) (fun i => ?_) (fun i hi hh => ?_) (fun i hi hh => ?_) (fun id z => if id = 0 then k (icO cx cy sd w h z.1 z.2.1) else none) (N := 65537) (by omega)
  · rw [show cels w h = pb.length by omega] at key
    rw [fold_chg, if_pos rfl] at key
    exact key
  · have := fold_len (fun i => inBx cx cy sd w x y u v i && sprB w tn i) (fun i => moreV i b) pb i
    show (((foldC _ _ pb i).length : Nat) : Int) = w * h
    omega
  · have a1 := fold_len (fun i => inBx cx cy sd w x y u v i && sprB w tn i) (fun i => moreV i b) pb i
    have a := Int.emod_nonneg (i : Int) (show w ≠ 0 by omega)
    have b' := Int.emod_lt_of_pos (i : Int) (show 0 < w by omega)
    have c := Int.ediv_nonneg (show (0 : Int) ≤ i by omega) (show 0 ≤ w by omega)
    have d : (i : Int) / w ≤ i := Int.ediv_le_self _ (by omega)
    unfold spK2
    simp only
    rw [if_neg (by omega), if_neg (by omega), in2_pos ⟨by omega, by omega⟩, in2_pos ⟨by omega, by omega⟩, Int.tmod_eq_emod_of_nonneg (show (0 : Int) ≤ i by omega), tdiv_pos (by omega), i64_in ((i : Int) / w) (by omega), i64_in ((i : Int) % w + (i : Int) / w) (by omega), i64_in ((i : Int) % w + (i : Int) / w + tn) (by omega), Int.tmod_eq_emod_of_nonneg (by omega), i64_in ((i : Int) + 1) (by omega), Int.toNat_natCast]
    have hs : (((i : Int) % w + (i : Int) / w + tn) % 2 == 0) = sprB w tn i := rfl
    rw [hs]
    simp only [foldC, hh, Bool.true_and]
    cases sprB w tn i
    · simp only [cond_false, nx2]
      rw [i64_in ((i : Int) + 1) (by omega)]
      rfl
    · rfl
  · show (_, _, IntKind.i64.wrap ((i : Int) + 1), ()) = _
    rw [i64_in _ (by omega)]
    simp only [foldC, hh, Bool.false_and, cond_false]
    rfl
--CON rspray
noncomputable def rsprayS : Fsp := fun _ args k => match args with
  | [.agg [.int .i64 cx, .int .i64 cy, .int .i64 sd, .int .i64 w, .int .i64 h, .ro (.int .i64) pb, .ro (.int .i64) po], .agg [.int .i64 x, .int .i64 y], .agg [.int .i64 u, .int .i64 v], .int .i64 b, .int .i64 tn] => bif bxvB cx cy sd w h pb po x y u v && (grnB b && (decide (0 ≤ tn) && decide (tn ≤ 1))) then k (icO cx cy sd w h (chgL (fun i => inBx cx cy sd w x y u v i && sprB w tn i) (fun i => moreV i b) pb) po) else k (icN)
  | _ => none
theorem rsprayS_ok : FspOk Tryz.prog 35 rsprayS := tower_Y fnR1_ok spL_ok ⟨Tryz.func35, fun _ _ => by kernel_rfl⟩ (by intro α args k; unfold rsprayS; split <;> simp only [cond_bind, Option.bind_some, Option.bind_none]) fun args out hSm hEq => by
  unfold rsprayS at hEq
  split at hEq
  · rename_i cx cy sd w h pb po x y u v b tn
    obtain ⟨N, n, e⟩ := rspray_fin cx cy sd w h pb po x y u v b tn hSm
    exact ⟨N, n, (e AOut some).trans hEq⟩
  · cases hEq
--END
--FIN rmean | besom/besomref03.Mean | $ICB (x y u v : Int) | $ICE, $S{x y}, $S{u v} | i3 (meaS (fun i => inBx cx cy sd w x y u v i) pb (cels w h)) (meaN (fun i => inBx cx cy sd w x y u v i) (cels w h)) 0 ?? bxvB $ICV x y u v :: i3 0 0 2
theorem rmean_fin (cx cy sd w h : Int) (pb po : List Int) (x y u v : Int) (hs : ∀ qSm ∈ ([.agg [.int .i64 cx, .int .i64 cy, .int .i64 sd, .int .i64 w, .int .i64 h, .ro (.int .i64) pb, .ro (.int .i64) po], .agg [.int .i64 x, .int .i64 y], .agg [.int .i64 u, .int .i64 v]] : List AVal), Sm qSm) : ∃ N n, ∀ α (k : AOut → Option α), evFn real tab ((twY fnR1 spL).env real tab N n) N Tryz.f37 α [.agg [.int .i64 cx, .int .i64 cy, .int .i64 sd, .int .i64 w, .int .i64 h, .ro (.int .i64) pb, .ro (.int .i64) po], .agg [.int .i64 x, .int .i64 y], .agg [.int .i64 u, .int .i64 v]] k = bif bxvB cx cy sd w h pb po x y u v then k (i3 (meaS (fun i => inBx cx cy sd w x y u v i) pb (cels w h)) (meaN (fun i => inBx cx cy sd w x y u v i) (cels w h)) 0) else k (i3 0 0 2) := by
  refine ⟨65537, 8, fun α k => (rmean_text 65537 0 α cx cy sd w h pb po x y u v k).trans ?_⟩
  unfold bxvB
  cases hI : iceB cx cy sd w h pb po
  · rfl
  cases plcB x y
  · rfl
  cases plcB u v
  · rfl
  cases decide (x ≤ u)
  · rfl
  cases decide (y ≤ v)
  · rfl
  have g := ice_is _ _ _ _ _ _ _ hI
  obtain ⟨c1, c2⟩ := cels_le g.fw g.fh
  have hpl := g.pl
  simp only [Bool.not_true, Bool.and_self, cond_false, cond_true]
  have key := bxG_loop cx cy sd w h pb po x y u v g (fun _ : Int × Int × Int × Unit => (pb.length : Int)) (fun z => z.2.2.1) (fun z => (z.1, z.2.1, IntKind.i64.wrap (z.2.2.1 + 1), ())) (rmeK pb) (fun i : Nat => (meaS (fun i => inBx cx cy sd w x y u v i) pb i, meaN (fun i => inBx cx cy sd w x y u v i) i, (i : Int), ())) (fun i => rfl) (fun i => hpl) (fun i hi hh => ?_) (fun i hi hh => ?_) (fun id z => if id = 0 then k (i3 z.1 z.2.1 0) else none) (N := 65537) (by omega)
  · rw [if_pos rfl] at key
    exact key
  · have m := mea_in (fun i => inBx cx cy sd w x y u v i) g.pg i
    have a := grn_at g.pg i
    unfold rmeK
    simp only
    rw [in2_pos ⟨by omega, by omega⟩, Int.toNat_natCast, i64_in ((i : Int) + 1) (by omega), i64_in (meaS (fun i => inBx cx cy sd w x y u v i) pb i + pb.getD i 0) (by omega), i64_in (meaN (fun i => inBx cx cy sd w x y u v i) i + 1) (by omega)]
    unfold meaS meaN
    simp only [foldC, hh, cond_true]
    rfl
  · show (_, _, IntKind.i64.wrap ((i : Int) + 1), ()) = _
    rw [i64_in ((i : Int) + 1) (by omega)]
    unfold meaS meaN
    simp only [foldC, hh, cond_false]
    rfl
--CON rmean
noncomputable def rmeanS : Fsp := fun _ args k => match args with
  | [.agg [.int .i64 cx, .int .i64 cy, .int .i64 sd, .int .i64 w, .int .i64 h, .ro (.int .i64) pb, .ro (.int .i64) po], .agg [.int .i64 x, .int .i64 y], .agg [.int .i64 u, .int .i64 v]] => bif bxvB cx cy sd w h pb po x y u v then k (i3 (meaS (fun i => inBx cx cy sd w x y u v i) pb (cels w h)) (meaN (fun i => inBx cx cy sd w x y u v i) (cels w h)) 0) else k (i3 0 0 2)
  | _ => none
theorem rmeanS_ok : FspOk Tryz.prog 37 rmeanS := tower_Y fnR1_ok spL_ok ⟨Tryz.func37, fun _ _ => by kernel_rfl⟩ (by intro α args k; unfold rmeanS; split <;> simp only [cond_bind, Option.bind_some, Option.bind_none]) fun args out hSm hEq => by
  unfold rmeanS at hEq
  split at hEq
  · rename_i cx cy sd w h pb po x y u v
    obtain ⟨N, n, e⟩ := rmean_fin cx cy sd w h pb po x y u v hSm
    exact ⟨N, n, (e AOut some).trans hEq⟩
  · cases hEq
--END
--FS fnR7 | fnR1 | rfade;rscrape;rspray;rmean
noncomputable def fnR7 : FuncId → Option Fsp := fun g =>
  if g = 31 then some rfadeS else
  if g = 33 then some rscrapeS else
  if g = 35 then some rsprayS else
  if g = 37 then some rmeanS else
  fnR1 g
theorem fnR7_ok : FsOk fnR7 :=
  fs_cons rfadeS_ok <|
  fs_cons rscrapeS_ok <|
  fs_cons rsprayS_ok <|
  fs_cons rmeanS_ok <|
  fnR1_ok
--END
end Go.Proofs.YtbcjhjidhhecaaaGreat

/- Contracts of the ice without cases: their results as total functions. -/
namespace Go.Proofs.YtbcjhjidhhecaaaGreat
open Go.RowKit

/-- Whatever is the one is the other. -/
def SimV (u v : AVal) : Prop := ∀ (h : List ABlk) (g : Gh) (w : World) (x : Value), Rep h g w u x → Rep h g w v x
theorem SimV.refl (u : AVal) : SimV u u := fun _ _ _ _ r => r
theorem simV_nils (e : Sh) : SimV .nils (.ro e []) := fun _ _ _ _ r => Sim.rep (.inr ⟨rfl, e, rfl⟩) r
def SimVs : List AVal → List AVal → Prop
  | [], [] => True
  | a :: l, b :: m => SimV a b ∧ SimVs l m
  | _, _ => False
theorem simVs_at : ∀ {l m : List AVal}, SimVs l m → l.length = m.length ∧ ∀ (j : Nat) a b, l[j]? = some a → m[j]? = some b → SimV a b
  | [], [], _ => ⟨rfl, fun j a b ha => by simp at ha⟩
  | a :: l, b :: m, h => by
    obtain ⟨h1, h2⟩ := simVs_at h.2
    refine ⟨by simp [h1], fun j u v hu hv => ?_⟩
    cases j with
    | zero => cases hu; cases hv; exact h.1
    | succ j => exact h2 j u v (by simpa using hu) (by simpa using hv)
  | [], _ :: _, h => by cases h
  | _ :: _, [], h => by cases h
theorem simV_agg {l m : List AVal} (h : SimVs l m) : SimV (.agg l) (.agg m) := fun _ _ _ x r => by
  obtain ⟨h1, h2⟩ := simVs_at h
  cases r with
  | agg _ arr hl hr => exact .agg m arr (by omega) fun j c y hc hy => h2 j _ c (List.getElem?_eq_getElem (by have := (List.getElem?_eq_some_iff.1 hc).1; omega)) hc _ _ _ _ (hr j _ y (List.getElem?_eq_getElem (by have := (List.getElem?_eq_some_iff.1 hc).1; omega)) hy)
theorem simV_tup {l m : List AVal} (h : SimVs l m) : SimV (.tup l) (.tup m) := fun _ _ _ x r => by
  obtain ⟨h1, h2⟩ := simVs_at h
  cases r with
  | tup _ arr hl hr => exact .tup m arr (by omega) fun j c y hc hy => h2 j _ c (List.getElem?_eq_getElem (by have := (List.getElem?_eq_some_iff.1 hc).1; omega)) hc _ _ _ _ (hr j _ y (List.getElem?_eq_getElem (by have := (List.getElem?_eq_some_iff.1 hc).1; omega)) hy)
/-- A contract that says less. -/
theorem fsp_sim {P : Program} {f : FuncId} {S S' : Fsp} (h : FspOk P f S) (hn : ∀ (α : Type) args (k : AOut → Option α), S' α args k = (S' AOut args some).bind k)
    (hs : ∀ args out, S' AOut args some = some out → ∃ v v', out = .ret v' ∧ S AOut args some = some (.ret v) ∧ SimV v v') : FspOk P f S' where
  enter := h.enter
  nat := hn
  calls := fun args out hout M w cargs hM hl hr => by
    obtain ⟨v, v', rfl, h1, h2⟩ := hs args out hout
    refine (h.calls args (.ret v) h1 M w cargs hM hl hr).mono fun e w' hp => ?_
    obtain ⟨M', m1, m2, m3, hb, x, he, hx⟩ := hp
    exact ⟨M', m1, m2, m3, hb, x, he, h2 _ _ _ _ hx⟩
def selI (c : Bool) (x : Int) : Int := bif c then x else 0
def selL (c : Bool) (l : List Int) : List Int := bif c then l else []
/-- Ice, or its error. -/
def icT (c : Bool) (cx cy sd w h : Int) (l1 l2 : List Int) : AOut := .ret (.tup [.agg [.int .i64 (selI c cx), .int .i64 (selI c cy), .int .i64 (selI c sd), .int .i64 (selI c w), .int .i64 (selI c h), .ro (.int .i64) (selL c l1), .ro (.int .i64) (selL c l2)], .int .i64 (er2 c)])
theorem ic_tot (c : Bool) (cx cy sd w h : Int) (l1 l2 : List Int) : ∃ v v', icT c cx cy sd w h l1 l2 = .ret v' ∧ (bif c then some (icO cx cy sd w h l1 l2) else some icN) = some (.ret v) ∧ SimV v v' := by
  cases c
  · refine ⟨_, _, rfl, rfl, simV_tup ⟨simV_agg ⟨.refl _, .refl _, .refl _, .refl _, .refl _, simV_nils _, simV_nils _, trivial⟩, .refl _, trivial⟩⟩
  · exact ⟨_, _, rfl, rfl, .refl _⟩
def i3T (c : Bool) (a b : Int) : AOut := i3 (selI c a) (selI c b) (er2 c)
theorem i3_tot (c : Bool) (a b : Int) : ∃ v v', i3T c a b = .ret v' ∧ (bif c then some (i3 a b 0) else some (i3 0 0 2)) = some (.ret v) ∧ SimV v v' := by
  cases c
  · exact ⟨_, _, rfl, rfl, .refl _⟩
  · exact ⟨_, _, rfl, rfl, .refl _⟩
noncomputable def ipassTS : Fsp := fun _ args k => match args with
  | [.agg [.int .i64 cx, .int .i64 cy, .int .i64 sd, .int .i64 w, .int .i64 h, .ro (.int .i64) pb, .ro (.int .i64) po], .agg [.int .i64 fl, .int .i64 ke, .int .i64 sw, .int .i64 be, .int .i64 we], .agg [.int .i64 x, .int .i64 y], .agg [.int .i64 u, .int .i64 v]] => k (icT (pasB cx cy sd w h pb po fl ke sw be we x y u v) cx cy sd w h (chgL (fun i => toB cx cy sd w x y u v i) (fun i => wornV i we) pb) po)
  | _ => none
theorem ipassTS_ok : FspOk Tryz.prog 23 ipassTS := fsp_sim ipassS_ok (by intro α args k; unfold ipassTS; split <;> rfl) fun args out hq => by
  unfold ipassTS at hq
  split at hq
  · rename_i cx cy sd w h pb po fl ke sw be we x y u v
    cases hq
    obtain ⟨v1, v2, e1, e2, e3⟩ := ic_tot (pasB cx cy sd w h pb po fl ke sw be we x y u v) cx cy sd w h (chgL (fun i => toB cx cy sd w x y u v i) (fun i => wornV i we) pb) po
    refine ⟨v1, v2, e1, ?_, e3⟩
    rw [← e2]
    rfl
  · cases hq
noncomputable def isweepTS : Fsp := fun _ args k => match args with
  | [.agg [.int .i64 cx, .int .i64 cy, .int .i64 sd, .int .i64 w, .int .i64 h, .ro (.int .i64) pb, .ro (.int .i64) po], .agg [.int .i64 x, .int .i64 y], .agg [.int .i64 u, .int .i64 v], .int .i64 b] => k (icT (twB cx cy sd w h pb po x y u v && grnB b) cx cy sd w h pb (chgL (fun i => toB cx cy sd w x y u v i) (fun i => moreV i b) po))
  | _ => none
theorem isweepTS_ok : FspOk Tryz.prog 25 isweepTS := fsp_sim isweepS_ok (by intro α args k; unfold isweepTS; split <;> rfl) fun args out hq => by
  unfold isweepTS at hq
  split at hq
  · rename_i cx cy sd w h pb po x y u v b
    cases hq
    obtain ⟨v1, v2, e1, e2, e3⟩ := ic_tot (twB cx cy sd w h pb po x y u v && grnB b) cx cy sd w h pb (chgL (fun i => toB cx cy sd w x y u v i) (fun i => moreV i b) po)
    refine ⟨v1, v2, e1, ?_, e3⟩
    rw [← e2]
    rfl
  · cases hq
noncomputable def ifadeTS : Fsp := fun _ args k => match args with
  | [.agg [.int .i64 cx, .int .i64 cy, .int .i64 sd, .int .i64 w, .int .i64 h, .ro (.int .i64) pb, .ro (.int .i64) po], .int .i64 b] => k (icT (iceB cx cy sd w h pb po && grnB b) cx cy sd w h pb (chgL (fun _ => true) (fun i => wornV i b) po))
  | _ => none
theorem ifadeTS_ok : FspOk Tryz.prog 30 ifadeTS := fsp_sim ifadeS_ok (by intro α args k; unfold ifadeTS; split <;> rfl) fun args out hq => by
  unfold ifadeTS at hq
  split at hq
  · rename_i cx cy sd w h pb po b
    cases hq
    obtain ⟨v1, v2, e1, e2, e3⟩ := ic_tot (iceB cx cy sd w h pb po && grnB b) cx cy sd w h pb (chgL (fun _ => true) (fun i => wornV i b) po)
    refine ⟨v1, v2, e1, ?_, e3⟩
    rw [← e2]
    rfl
  · cases hq
noncomputable def isprayTS : Fsp := fun _ args k => match args with
  | [.agg [.int .i64 cx, .int .i64 cy, .int .i64 sd, .int .i64 w, .int .i64 h, .ro (.int .i64) pb, .ro (.int .i64) po], .agg [.int .i64 x, .int .i64 y], .agg [.int .i64 u, .int .i64 v], .int .i64 b, .int .i64 tn] => k (icT (bxvB cx cy sd w h pb po x y u v && (grnB b && (decide (0 ≤ tn) && decide (tn ≤ 1)))) cx cy sd w h (chgL (fun i => inBx cx cy sd w x y u v i && sprB w tn i) (fun i => moreV i b) pb) po)
  | _ => none
theorem isprayTS_ok : FspOk Tryz.prog 34 isprayTS := fsp_sim isprayS_ok (by intro α args k; unfold isprayTS; split <;> rfl) fun args out hq => by
  unfold isprayTS at hq
  split at hq
  · rename_i cx cy sd w h pb po x y u v b tn
    cases hq
    obtain ⟨v1, v2, e1, e2, e3⟩ := ic_tot (bxvB cx cy sd w h pb po x y u v && (grnB b && (decide (0 ≤ tn) && decide (tn ≤ 1)))) cx cy sd w h (chgL (fun i => inBx cx cy sd w x y u v i && sprB w tn i) (fun i => moreV i b) pb) po
    refine ⟨v1, v2, e1, ?_, e3⟩
    rw [← e2]
    rfl
  · cases hq
noncomputable def imeanTS : Fsp := fun _ args k => match args with
  | [.agg [.int .i64 cx, .int .i64 cy, .int .i64 sd, .int .i64 w, .int .i64 h, .ro (.int .i64) pb, .ro (.int .i64) po], .agg [.int .i64 x, .int .i64 y], .agg [.int .i64 u, .int .i64 v]] => k (i3T (bxvB cx cy sd w h pb po x y u v) (meaS (fun i => inBx cx cy sd w x y u v i) pb (cels w h)) (meaN (fun i => inBx cx cy sd w x y u v i) (cels w h)))
  | _ => none
theorem imeanTS_ok : FspOk Tryz.prog 36 imeanTS := fsp_sim imeanS_ok (by intro α args k; unfold imeanTS; split <;> rfl) fun args out hq => by
  unfold imeanTS at hq
  split at hq
  · rename_i cx cy sd w h pb po x y u v
    cases hq
    obtain ⟨v1, v2, e1, e2, e3⟩ := i3_tot (bxvB cx cy sd w h pb po x y u v) (meaS (fun i => inBx cx cy sd w x y u v i) pb (cels w h)) (meaN (fun i => inBx cx cy sd w x y u v i) (cels w h))
    refine ⟨v1, v2, e1, ?_, e3⟩
    rw [← e2]
    rfl
  · cases hq
noncomputable def iscrapeTS : Fsp := fun _ args k => match args with
  | [.agg [.int .i64 cx, .int .i64 cy, .int .i64 sd, .int .i64 w, .int .i64 h, .ro (.int .i64) pb, .ro (.int .i64) po], .agg [.int .i64 x, .int .i64 y], .agg [.int .i64 u, .int .i64 v], .int .i64 b] => k (icT (bxvB cx cy sd w h pb po x y u v && grnB b) cx cy sd w h (chgL (fun i => inBx cx cy sd w x y u v i && true) (fun i => capV i b) pb) (chgL (fun i => inBx cx cy sd w x y u v i && true) (fun _ => 0) po))
  | _ => none
theorem iscrapeTS_ok : FspOk Tryz.prog 32 iscrapeTS := fsp_sim iscrapeS_ok (by intro α args k; unfold iscrapeTS; split <;> rfl) fun args out hq => by
  unfold iscrapeTS at hq
  split at hq
  · rename_i cx cy sd w h pb po x y u v b
    cases hq
    obtain ⟨v1, v2, e1, e2, e3⟩ := ic_tot (bxvB cx cy sd w h pb po x y u v && grnB b) cx cy sd w h (chgL (fun i => inBx cx cy sd w x y u v i && true) (fun i => capV i b) pb) (chgL (fun i => inBx cx cy sd w x y u v i && true) (fun _ => 0) po)
    refine ⟨v1, v2, e1, ?_, e3⟩
    rw [← e2]
    rfl
  · cases hq
--FS fsI12 | fsI9 | ipassT=besom/ice.Pass;isweepT=besom/ice.Sweep;ifadeT=besom/ice.Fade;isprayT=besom/ice.Spray;imeanT=besom/ice.Mean;iscrapeT=besom/ice.Scrape
noncomputable def fsI12 : FuncId → Option Fsp := fun g =>
  if g = 23 then some ipassTS else
  if g = 25 then some isweepTS else
  if g = 30 then some ifadeTS else
  if g = 34 then some isprayTS else
  if g = 36 then some imeanTS else
  if g = 32 then some iscrapeTS else
  fsI9 g
theorem fsI12_ok : FsOk fsI12 :=
  fs_cons ipassTS_ok <|
  fs_cons isweepTS_ok <|
  fs_cons ifadeTS_ok <|
  fs_cons isprayTS_ok <|
  fs_cons imeanTS_ok <|
  fs_cons iscrapeTS_ok <|
  fsI9_ok
--END
end Go.Proofs.YtbcjhjidhhecaaaGreat

/- The reference's contracts without cases. -/
namespace Go.Proofs.YtbcjhjidhhecaaaGreat
open Go.RowKit

noncomputable def rfadeTS : Fsp := fun _ args k => match args with
  | [.agg [.int .i64 cx, .int .i64 cy, .int .i64 sd, .int .i64 w, .int .i64 h, .ro (.int .i64) pb, .ro (.int .i64) po], .int .i64 b] => k (icT (iceB cx cy sd w h pb po && grnB b) cx cy sd w h pb (chgL (fun _ => true) (fun i => wornV i b) po))
  | _ => none
theorem rfadeTS_ok : FspOk Tryz.prog 31 rfadeTS := fsp_sim rfadeS_ok (by intro α args k; unfold rfadeTS; split <;> rfl) fun args out hq => by
  unfold rfadeTS at hq
  split at hq
  · rename_i cx cy sd w h pb po b
    cases hq
    obtain ⟨v1, v2, e1, e2, e3⟩ := ic_tot (iceB cx cy sd w h pb po && grnB b) cx cy sd w h pb (chgL (fun _ => true) (fun i => wornV i b) po)
    refine ⟨v1, v2, e1, ?_, e3⟩
    rw [← e2]
    rfl
  · cases hq
noncomputable def rsprayTS : Fsp := fun _ args k => match args with
  | [.agg [.int .i64 cx, .int .i64 cy, .int .i64 sd, .int .i64 w, .int .i64 h, .ro (.int .i64) pb, .ro (.int .i64) po], .agg [.int .i64 x, .int .i64 y], .agg [.int .i64 u, .int .i64 v], .int .i64 b, .int .i64 tn] => k (icT (bxvB cx cy sd w h pb po x y u v && (grnB b && (decide (0 ≤ tn) && decide (tn ≤ 1)))) cx cy sd w h (chgL (fun i => inBx cx cy sd w x y u v i && sprB w tn i) (fun i => moreV i b) pb) po)
  | _ => none
theorem rsprayTS_ok : FspOk Tryz.prog 35 rsprayTS := fsp_sim rsprayS_ok (by intro α args k; unfold rsprayTS; split <;> rfl) fun args out hq => by
  unfold rsprayTS at hq
  split at hq
  · rename_i cx cy sd w h pb po x y u v b tn
    cases hq
    obtain ⟨v1, v2, e1, e2, e3⟩ := ic_tot (bxvB cx cy sd w h pb po x y u v && (grnB b && (decide (0 ≤ tn) && decide (tn ≤ 1)))) cx cy sd w h (chgL (fun i => inBx cx cy sd w x y u v i && sprB w tn i) (fun i => moreV i b) pb) po
    refine ⟨v1, v2, e1, ?_, e3⟩
    rw [← e2]
    rfl
  · cases hq
noncomputable def rmeanTS : Fsp := fun _ args k => match args with
  | [.agg [.int .i64 cx, .int .i64 cy, .int .i64 sd, .int .i64 w, .int .i64 h, .ro (.int .i64) pb, .ro (.int .i64) po], .agg [.int .i64 x, .int .i64 y], .agg [.int .i64 u, .int .i64 v]] => k (i3T (bxvB cx cy sd w h pb po x y u v) (meaS (fun i => inBx cx cy sd w x y u v i) pb (cels w h)) (meaN (fun i => inBx cx cy sd w x y u v i) (cels w h)))
  | _ => none
theorem rmeanTS_ok : FspOk Tryz.prog 37 rmeanTS := fsp_sim rmeanS_ok (by intro α args k; unfold rmeanTS; split <;> rfl) fun args out hq => by
  unfold rmeanTS at hq
  split at hq
  · rename_i cx cy sd w h pb po x y u v
    cases hq
    obtain ⟨v1, v2, e1, e2, e3⟩ := i3_tot (bxvB cx cy sd w h pb po x y u v) (meaS (fun i => inBx cx cy sd w x y u v i) pb (cels w h)) (meaN (fun i => inBx cx cy sd w x y u v i) (cels w h))
    refine ⟨v1, v2, e1, ?_, e3⟩
    rw [← e2]
    rfl
  · cases hq
noncomputable def rscrapeTS : Fsp := fun _ args k => match args with
  | [.agg [.int .i64 cx, .int .i64 cy, .int .i64 sd, .int .i64 w, .int .i64 h, .ro (.int .i64) pb, .ro (.int .i64) po], .agg [.int .i64 x, .int .i64 y], .agg [.int .i64 u, .int .i64 v], .int .i64 b] => k (icT (bxvB cx cy sd w h pb po x y u v && grnB b) cx cy sd w h (chgL (fun i => inBx cx cy sd w x y u v i && true) (fun i => capV i b) pb) (chgL (fun i => inBx cx cy sd w x y u v i && true) (fun _ => 0) po))
  | _ => none
theorem rscrapeTS_ok : FspOk Tryz.prog 33 rscrapeTS := fsp_sim rscrapeS_ok (by intro α args k; unfold rscrapeTS; split <;> rfl) fun args out hq => by
  unfold rscrapeTS at hq
  split at hq
  · rename_i cx cy sd w h pb po x y u v b
    cases hq
    obtain ⟨v1, v2, e1, e2, e3⟩ := ic_tot (bxvB cx cy sd w h pb po x y u v && grnB b) cx cy sd w h (chgL (fun i => inBx cx cy sd w x y u v i && true) (fun i => capV i b) pb) (chgL (fun i => inBx cx cy sd w x y u v i && true) (fun _ => 0) po)
    refine ⟨v1, v2, e1, ?_, e3⟩
    rw [← e2]
    rfl
  · cases hq
end Go.Proofs.YtbcjhjidhhecaaaGreat

/- IceMaker: it answers true. -/
namespace Go.Proofs.YtbcjhjidhhecaaaGreat
open Go.RowKit

--FS fsIm | fsI12 | ialive=besom/besomlaw03.alive;isame=besom/besomref03.Same;rfadeT=besom/besomref03.Fade;rscrapeT=besom/besomref03.Scrape;rsprayT=besom/besomref03.Spray;rmeanT=besom/besomref03.Mean
noncomputable def fsIm : FuncId → Option Fsp := fun g =>
  if g = 8 then some ialiveS else
  if g = 29 then some isameS else
  if g = 31 then some rfadeTS else
  if g = 33 then some rscrapeTS else
  if g = 35 then some rsprayTS else
  if g = 37 then some rmeanTS else
  fsI12 g
theorem fsIm_ok : FsOk fsIm :=
  fs_cons ialiveS_ok <|
  fs_cons isameS_ok <|
  fs_cons rfadeTS_ok <|
  fs_cons rscrapeTS_ok <|
  fs_cons rsprayTS_ok <|
  fs_cons rmeanTS_ok <|
  fsI12_ok
--END
--AT fsIm spL twV
--TEXT imaker | twV fsIm spL | 8 | besom/besomlaw03.IceMaker | $ICB (x y u v b tn : Int) | $ICE, $S{x y}, $S{u v}, $I{b}, $I{tn}
--KEY 1e95aaddb4
set_option maxRecDepth 100000 in
theorem imaker_text (N n0 : Nat) (α : Type) (cx cy sd w h : Int) (pb po : List Int) (x y u v b tn : Int) (k : AOut → Option α) : evFn real tab ((twV fsIm spL).env real tab N (n0 + 8)) N Tryz.f6 α [.agg [.int .i64 cx, .int .i64 cy, .int .i64 sd, .int .i64 w, .int .i64 h, .ro (.int .i64) pb, .ro (.int .i64) po], .agg [.int .i64 x, .int .i64 y], .agg [.int .i64 u, .int .i64 v], .int .i64 b, .int .i64 tn] k =
  bif decide ((↑pb.length : Int) > 1000) then k (AOut.ret (AVal.bool true))
  else
    bif decide ((↑po.length : Int) > 1000) then k (AOut.ret (AVal.bool true))
    else
      if ((List.nil (α := Int)).length + pb.length) * 8 ≤ room then
        if ((List.nil (α := Int)).length + po.length) * 8 ≤ room then
          bif
              sameB (selI (iceB cx cy sd w h ([] ++ pb) ([] ++ po) && grnB b) cx)
                (selI (iceB cx cy sd w h ([] ++ pb) ([] ++ po) && grnB b) cy)
                (selI (iceB cx cy sd w h ([] ++ pb) ([] ++ po) && grnB b) sd)
                (selI (iceB cx cy sd w h ([] ++ pb) ([] ++ po) && grnB b) w)
                (selI (iceB cx cy sd w h ([] ++ pb) ([] ++ po) && grnB b) h)
                (selL (iceB cx cy sd w h ([] ++ pb) ([] ++ po) && grnB b) ([] ++ pb))
                (selL (iceB cx cy sd w h ([] ++ pb) ([] ++ po) && grnB b)
                  (chgL (fun (x : Nat) => true) (fun (i : Int) => wornV i b) ([] ++ po)))
                (selI (iceB cx cy sd w h pb po && grnB b) cx) (selI (iceB cx cy sd w h pb po && grnB b) cy)
                (selI (iceB cx cy sd w h pb po && grnB b) sd) (selI (iceB cx cy sd w h pb po && grnB b) w)
                (selI (iceB cx cy sd w h pb po && grnB b) h) (selL (iceB cx cy sd w h pb po && grnB b) pb)
                (selL (iceB cx cy sd w h pb po && grnB b)
                  (chgL (fun (x : Nat) => true) (fun (i : Int) => wornV i b) po)) then
            bif er2 (iceB cx cy sd w h ([] ++ pb) ([] ++ po) && grnB b) == er2 (iceB cx cy sd w h pb po && grnB b) then
              bif
                  sameB (selI (bxvB cx cy sd w h ([] ++ pb) ([] ++ po) x y u v && grnB b) cx)
                    (selI (bxvB cx cy sd w h ([] ++ pb) ([] ++ po) x y u v && grnB b) cy)
                    (selI (bxvB cx cy sd w h ([] ++ pb) ([] ++ po) x y u v && grnB b) sd)
                    (selI (bxvB cx cy sd w h ([] ++ pb) ([] ++ po) x y u v && grnB b) w)
                    (selI (bxvB cx cy sd w h ([] ++ pb) ([] ++ po) x y u v && grnB b) h)
                    (selL (bxvB cx cy sd w h ([] ++ pb) ([] ++ po) x y u v && grnB b)
                      (chgL (fun (i : Nat) => inBx cx cy sd w x y u v (↑i : Int) && true) (fun (i : Int) => capV i b)
                        ([] ++ pb)))
                    (selL (bxvB cx cy sd w h ([] ++ pb) ([] ++ po) x y u v && grnB b)
                      (chgL (fun (i : Nat) => inBx cx cy sd w x y u v (↑i : Int) && true) (fun (x : Int) => 0)
                        ([] ++ po)))
                    (selI (bxvB cx cy sd w h pb po x y u v && grnB b) cx)
                    (selI (bxvB cx cy sd w h pb po x y u v && grnB b) cy)
                    (selI (bxvB cx cy sd w h pb po x y u v && grnB b) sd)
                    (selI (bxvB cx cy sd w h pb po x y u v && grnB b) w)
                    (selI (bxvB cx cy sd w h pb po x y u v && grnB b) h)
                    (selL (bxvB cx cy sd w h pb po x y u v && grnB b)
                      (chgL (fun (i : Nat) => inBx cx cy sd w x y u v (↑i : Int) && true) (fun (i : Int) => capV i b) pb))
                    (selL (bxvB cx cy sd w h pb po x y u v && grnB b)
                      (chgL (fun (i : Nat) => inBx cx cy sd w x y u v (↑i : Int) && true) (fun (x : Int) => 0) po)) then
                bif
                    er2 (bxvB cx cy sd w h ([] ++ pb) ([] ++ po) x y u v && grnB b) ==
                      er2 (bxvB cx cy sd w h pb po x y u v && grnB b) then
                  bif
                      sameB
                        (selI
                          (bxvB cx cy sd w h ([] ++ pb) ([] ++ po) x y u v &&
                            (grnB b && (decide (0 ≤ tn) && decide (tn ≤ 1))))
                          cx)
                        (selI
                          (bxvB cx cy sd w h ([] ++ pb) ([] ++ po) x y u v &&
                            (grnB b && (decide (0 ≤ tn) && decide (tn ≤ 1))))
                          cy)
                        (selI
                          (bxvB cx cy sd w h ([] ++ pb) ([] ++ po) x y u v &&
                            (grnB b && (decide (0 ≤ tn) && decide (tn ≤ 1))))
                          sd)
                        (selI
                          (bxvB cx cy sd w h ([] ++ pb) ([] ++ po) x y u v &&
                            (grnB b && (decide (0 ≤ tn) && decide (tn ≤ 1))))
                          w)
                        (selI
                          (bxvB cx cy sd w h ([] ++ pb) ([] ++ po) x y u v &&
                            (grnB b && (decide (0 ≤ tn) && decide (tn ≤ 1))))
                          h)
                        (selL
                          (bxvB cx cy sd w h ([] ++ pb) ([] ++ po) x y u v &&
                            (grnB b && (decide (0 ≤ tn) && decide (tn ≤ 1))))
                          (chgL (fun (i : Nat) => inBx cx cy sd w x y u v (↑i : Int) && sprB w tn (↑i : Int))
                            (fun (i : Int) => moreV i b) ([] ++ pb)))
                        (selL
                          (bxvB cx cy sd w h ([] ++ pb) ([] ++ po) x y u v &&
                            (grnB b && (decide (0 ≤ tn) && decide (tn ≤ 1))))
                          ([] ++ po))
                        (selI (bxvB cx cy sd w h pb po x y u v && (grnB b && (decide (0 ≤ tn) && decide (tn ≤ 1)))) cx)
                        (selI (bxvB cx cy sd w h pb po x y u v && (grnB b && (decide (0 ≤ tn) && decide (tn ≤ 1)))) cy)
                        (selI (bxvB cx cy sd w h pb po x y u v && (grnB b && (decide (0 ≤ tn) && decide (tn ≤ 1)))) sd)
                        (selI (bxvB cx cy sd w h pb po x y u v && (grnB b && (decide (0 ≤ tn) && decide (tn ≤ 1)))) w)
                        (selI (bxvB cx cy sd w h pb po x y u v && (grnB b && (decide (0 ≤ tn) && decide (tn ≤ 1)))) h)
                        (selL (bxvB cx cy sd w h pb po x y u v && (grnB b && (decide (0 ≤ tn) && decide (tn ≤ 1))))
                          (chgL (fun (i : Nat) => inBx cx cy sd w x y u v (↑i : Int) && sprB w tn (↑i : Int))
                            (fun (i : Int) => moreV i b) pb))
                        (selL (bxvB cx cy sd w h pb po x y u v && (grnB b && (decide (0 ≤ tn) && decide (tn ≤ 1))))
                          po) then
                    bif
                        er2
                            (bxvB cx cy sd w h ([] ++ pb) ([] ++ po) x y u v &&
                              (grnB b && (decide (0 ≤ tn) && decide (tn ≤ 1)))) ==
                          er2 (bxvB cx cy sd w h pb po x y u v && (grnB b && (decide (0 ≤ tn) && decide (tn ≤ 1)))) then
                      bif
                          selI (bxvB cx cy sd w h ([] ++ pb) ([] ++ po) x y u v)
                              (meaS (fun (i : Nat) => inBx cx cy sd w x y u v (↑i : Int)) ([] ++ pb) (cels w h)) ==
                            selI (bxvB cx cy sd w h pb po x y u v)
                              (meaS (fun (i : Nat) => inBx cx cy sd w x y u v (↑i : Int)) pb (cels w h)) then
                        bif
                            selI (bxvB cx cy sd w h ([] ++ pb) ([] ++ po) x y u v)
                                (meaN (fun (i : Nat) => inBx cx cy sd w x y u v (↑i : Int)) (cels w h)) ==
                              selI (bxvB cx cy sd w h pb po x y u v)
                                (meaN (fun (i : Nat) => inBx cx cy sd w x y u v (↑i : Int)) (cels w h)) then
                          bif
                              er2 (bxvB cx cy sd w h ([] ++ pb) ([] ++ po) x y u v) ==
                                er2 (bxvB cx cy sd w h pb po x y u v) then
                            bif sameB cx cy sd w h ([] ++ pb) ([] ++ po) cx cy sd w h pb po then
                              k (AOut.ret (AVal.bool true))
                            else k (AOut.ret (AVal.bool false))
                          else k (AOut.ret (AVal.bool false))
                        else k (AOut.ret (AVal.bool false))
                      else k (AOut.ret (AVal.bool false))
                    else k (AOut.ret (AVal.bool false))
                  else k (AOut.ret (AVal.bool false))
                else k (AOut.ret (AVal.bool false))
              else k (AOut.ret (AVal.bool false))
            else k (AOut.ret (AVal.bool false))
          else k (AOut.ret (AVal.bool false))
        else none
      else none := by kernel_rfl
--END
theorem sam_self (cx cy sd w h : Int) (pb po : List Int) : sameB cx cy sd w h pb po cx cy sd w h pb po = true := by simp [sameB]
theorem imaker_true (cx cy sd w h : Int) (pb po : List Int) (x y u v b tn : Int) : evFn real tab ((twV fsIm spL).env real tab 8 8) 8 Tryz.f6 AOut [.agg [.int .i64 cx, .int .i64 cy, .int .i64 sd, .int .i64 w, .int .i64 h, .ro (.int .i64) pb, .ro (.int .i64) po], .agg [.int .i64 x, .int .i64 y], .agg [.int .i64 u, .int .i64 v], .int .i64 b, .int .i64 tn] some = some (b1 true) := by
  refine (imaker_text 8 0 AOut cx cy sd w h pb po x y u v b tn some).trans ?_
  by_cases h1 : (pb.length : Int) > 1000
  · rw [decide_eq_true h1]; rfl
  by_cases h2 : (po.length : Int) > 1000
  · rw [decide_eq_false h1, decide_eq_true h2]; rfl
  rw [decide_eq_false h1, decide_eq_false h2, if_pos (by simp [room]; omega), if_pos (by simp [room]; omega)]
  simp only [List.nil_append, sam_self, BEq.rfl, cond_true, cond_false]
  rfl
def imakerF : List AVal → Option AOut
  | [.agg [.int .i64 cx, .int .i64 cy, .int .i64 sd, .int .i64 w, .int .i64 h, .ro (.int .i64) pb, .ro (.int .i64) po], .agg [.int .i64 x, .int .i64 y], .agg [.int .i64 u, .int .i64 v], .int .i64 b, .int .i64 tn] => some (b1 true)
  | _ => none
theorem imaker_ok : FspOk Tryz.prog 6 (toFsp imakerF) := tower_V fsIm_ok spL_ok ⟨Tryz.func6, fun _ _ => by kernel_rfl⟩ (toFsp_nat _) fun args out hSm hq => by
  replace hq := toFsp_some hq
  unfold imakerF at hq
  split at hq
  · rename_i cx cy sd w h pb po x y u v b tn
    cases hq
    exact ⟨8, 8, imaker_true cx cy sd w h pb po x y u v b tn⟩
  · cases hq
end Go.Proofs.YtbcjhjidhhecaaaGreat
