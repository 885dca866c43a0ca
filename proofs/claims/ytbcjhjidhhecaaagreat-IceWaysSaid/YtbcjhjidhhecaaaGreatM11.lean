/- Parts of the proof, in build order. -/
import Derived.Test.YtbcjhjidhhecaaaGreatM10
import Derived.Test.YtbcjhjidhhecaaaGreatM9
/- The reference's ice: faded, scraped, sprayed; the mean. -/
namespace Go.Proofs.YtbcjhjidhhecaaaGreat
open Go.RowKit

abbrev St2 : Type := List Int × List Int × Int × Unit
section
variable {σ α : Type}
def bxG (cx cy sd w x y u v : Int) (bd gc : σ → Int) (nx : σ → σ) (hk : σ → Option (LRes σ α)) (z : σ) : Option (LRes σ α) :=
  bif decide (gc z < bd z) then
    if w = 0 then none else if w = 0 then none
    else
      bif decide (lwX cx sd w (gc z) ≥ x) then
        bif decide (lwY cy sd w (gc z) ≥ y) then
          bif decide (hgX cx sd w (gc z) ≤ u) then
            bif decide (hgY cy sd w (gc z) ≤ v) then hk z
            else some (LRes.cont (nx z))
          else some (LRes.cont (nx z))
        else some (LRes.cont (nx z))
      else some (LRes.cont (nx z))
  else some (LRes.brk 0 z)
theorem bxG_loop (cx cy sd w h : Int) (pb po : List Int) (x y u v : Int) (g : IceIs cx cy sd w h pb po) (bd gc : σ → Int) (nx : σ → σ) (hk : σ → Option (LRes σ α)) (st : Nat → σ) (h0 : ∀ i, gc (st i) = i) (hb : ∀ i, bd (st i) = w * h) (h1 : ∀ i, i < cels w h → inBx cx cy sd w x y u v i = true → hk (st i) = some (.cont (st (i + 1)))) (h2 : ∀ i, i < cels w h → inBx cx cy sd w x y u v i = false → nx (st i) = st (i + 1)) (K : Nat → σ → Option α) {N : Nat} (hN : cels w h < N) :
    afterL (iterL N (bxG cx cy sd w x y u v bd gc nx hk) (st 0)) K = K 0 (st (cels w h)) := by
  obtain ⟨c1, c2⟩ := cels_le g.fw g.fh
  refine Eq.trans ?_ (bx_loop cx cy sd w h pb po x y u v g gc nx hk st h0 h1 h2 K hN)
  have gw := g.fw
  refine (count_loop (f := bxG cx cy sd w x y u v bd gc nx hk) (K := K) st (cels w h) (b := 0) (y := st (cels w h)) (fun i hi => ?_) ?_ hN).trans (bx_loop cx cy sd w h pb po x y u v g gc nx hk st h0 h1 h2 K hN).symm
  · have key : bxG cx cy sd w x y u v bd gc nx hk (st i) = bxF cx cy sd w h x y u v gc nx hk (st i) := by
      unfold bxG bxF
      rw [hb i, i64_in (w * h) (by omega)]
    rw [key]
    obtain ⟨e1, e2, e3, e4⟩ := lw_eq g.fc g.fs g.fw g.fh (show (0 : Int) ≤ i by omega) (show (i : Int) < w * h by omega)
    unfold bxF
    rw [h0 i, e1, e2, e3, e4, i64_in (w * h) (by omega), decide_eq_true (show (i : Int) < w * h by omega), cond_true, if_neg (by omega), if_neg (by omega)]
    have a1 := h1 i hi
    have a2 := h2 i hi
    show (bif decide (x ≤ cx + (i : Int) % w * sd) then bif decide (y ≤ cy + (i : Int) / w * sd) then bif decide (cx + (i : Int) % w * sd + sd ≤ u) then bif decide (cy + (i : Int) / w * sd + sd ≤ v) then _ else _ else _ else _ else _) = _
    unfold inBx at a1 a2
    revert a1 a2
    cases decide (x ≤ cx + (i : Int) % w * sd) <;> cases decide (y ≤ cy + (i : Int) / w * sd) <;> cases decide (cx + (i : Int) % w * sd + sd ≤ u) <;> cases decide (cy + (i : Int) / w * sd + sd ≤ v) <;> intro a1 a2 <;> first | exact a1 rfl | (simp only [cond_true, cond_false]; rw [a2 rfl])
  · unfold bxG
    rw [h0, hb, decide_eq_false (by omega)]
    rfl
end
abbrev nx2 : St2 → St2 := fun z => (z.1, z.2.1, IntKind.i64.wrap (z.2.2.1 + 1), ())
def in2 {β : Type} (c : Int) (l : List Int) (r : Option β) : Option β := if 0 ≤ c ∧ c < (l.length : Int) then r else none
theorem in2_pos {β : Type} {c : Int} {l : List Int} (h : 0 ≤ c ∧ c < (l.length : Int)) (r : Option β) : in2 c l r = r := if_pos h
def scrK {α : Type} (b : Int) (z : St2) : Option (LRes St2 α) :=
  in2 z.2.2.1 z.1 (in2 z.2.2.1 z.1 (in2 z.2.2.1 z.2.1 (some (LRes.cont (z.1.set z.2.2.1.toNat (capV (z.1.getD z.2.2.1.toNat 0) b), z.2.1.set z.2.2.1.toNat 0, IntKind.i64.wrap (z.2.2.1 + 1), ())))))
def spK2 {α : Type} (w tn b : Int) (z : St2) : Option (LRes St2 α) :=
  if w = 0 then none else if w = 0 then none
  else bif (IntKind.i64.wrap (IntKind.i64.wrap (z.2.2.1.tmod w + IntKind.i64.wrap (z.2.2.1.tdiv w)) + tn)).tmod 2 == 0 then
    in2 z.2.2.1 z.1 (in2 z.2.2.1 z.1 (some (LRes.cont (z.1.set z.2.2.1.toNat (moreV (z.1.getD z.2.2.1.toNat 0) b), z.2.1, IntKind.i64.wrap (z.2.2.1 + 1), ()))))
  else some (LRes.cont (nx2 z))
def rfdF {α : Type} (b : Int) (z : St2) : Option (LRes St2 α) :=
  bif decide (z.2.2.1 < (z.2.1.length : Int)) then
    in2 z.2.2.1 z.2.1 (in2 z.2.2.1 z.2.1 (some (LRes.cont (z.1, z.2.1.set z.2.2.1.toNat (wornV (z.2.1.getD z.2.2.1.toNat 0) b), IntKind.i64.wrap (z.2.2.1 + 1), ()))))
  else some (LRes.brk 0 (z.1, z.2.1, z.2.2.1, ()))
def rmeK {α : Type} (pb : List Int) (z : Int × Int × Int × Unit) : Option (LRes (Int × Int × Int × Unit) α) :=
  in2 z.2.2.1 pb (some (LRes.cont (IntKind.i64.wrap (z.1 + pb.getD z.2.2.1.toNat 0), IntKind.i64.wrap (z.2.1 + 1), IntKind.i64.wrap (z.2.2.1 + 1), ())))
/-- Both lists in memory of their own. -/
def cop2 {α : Type} (pb po : List Int) (r : Option α) : Option α := if ((List.nil (α := Int)).length + pb.length) * 8 ≤ room then if ((List.nil (α := Int)).length + po.length) * 8 ≤ room then r else none else none
theorem cop2_pos {α : Type} {pb po : List Int} (h1 : pb.length ≤ 65536) (h2 : po.length ≤ 65536) (r : Option α) : cop2 pb po r = r := by
  unfold cop2
  rw [if_pos (by simp [room]; omega), if_pos (by simp [room]; omega)]
--AT fnR1 spL twY
set_option maxRecDepth 100000 in
theorem rfade_text (N n0 : Nat) (α : Type) (cx cy sd w h : Int) (pb po : List Int) (b : Int) (k : AOut → Option α) : evFn real tab ((twY fnR1 spL).env real tab N (n0 + 8)) N Tryz.f31 α [.agg [.int .i64 cx, .int .i64 cy, .int .i64 sd, .int .i64 w, .int .i64 h, .ro (.int .i64) pb, .ro (.int .i64) po], .int .i64 b] k =
    bif !iceB cx cy sd w h pb po then k icN else bif decide (0 ≤ b) then bif !decide (b ≤ 1000) then k icN
    else cop2 pb po (afterL (iterL N (rfdF b) ((List.nil (α := Int)) ++ pb, (List.nil (α := Int)) ++ po, 0, ())) fun id z => if id = 0 then k (icO cx cy sd w h z.1 z.2.1) else none)
    else k icN := by kernel_rfl
set_option maxRecDepth 100000 in
theorem rscrape_text (N n0 : Nat) (α : Type) (cx cy sd w h : Int) (pb po : List Int) (x y u v b : Int) (k : AOut → Option α) : evFn real tab ((twY fnR1 spL).env real tab N (n0 + 8)) N Tryz.f33 α [.agg [.int .i64 cx, .int .i64 cy, .int .i64 sd, .int .i64 w, .int .i64 h, .ro (.int .i64) pb, .ro (.int .i64) po], .agg [.int .i64 x, .int .i64 y], .agg [.int .i64 u, .int .i64 v], .int .i64 b] k =
    bif iceB cx cy sd w h pb po then bif plcB x y then bif plcB u v then bif decide (x ≤ u) then bif !decide (y ≤ v) then k icN
    else bif decide (0 ≤ b) then bif !decide (b ≤ 1000) then k icN
    else cop2 pb po (afterL (iterL N (bxG cx cy sd w x y u v (fun z : St2 => (z.1.length : Int)) (fun z => z.2.2.1) nx2 (scrK b)) ((List.nil (α := Int)) ++ pb, (List.nil (α := Int)) ++ po, 0, ())) fun id z => if id = 0 then k (icO cx cy sd w h z.1 z.2.1) else none)
    else k icN else k icN else k icN else k icN else k icN := by kernel_rfl
set_option maxRecDepth 100000 in
theorem rspray_text (N n0 : Nat) (α : Type) (cx cy sd w h : Int) (pb po : List Int) (x y u v b tn : Int) (k : AOut → Option α) : evFn real tab ((twY fnR1 spL).env real tab N (n0 + 8)) N Tryz.f35 α [.agg [.int .i64 cx, .int .i64 cy, .int .i64 sd, .int .i64 w, .int .i64 h, .ro (.int .i64) pb, .ro (.int .i64) po], .agg [.int .i64 x, .int .i64 y], .agg [.int .i64 u, .int .i64 v], .int .i64 b, .int .i64 tn] k =
    bif iceB cx cy sd w h pb po then bif plcB x y then bif plcB u v then bif decide (x ≤ u) then bif !decide (y ≤ v) then k icN
    else bif decide (0 ≤ b) then bif !decide (b ≤ 1000) then k icN
    else bif decide (0 ≤ tn) then bif !decide (tn ≤ 1) then k icN
    else cop2 pb po (afterL (iterL N (bxG cx cy sd w x y u v (fun z : St2 => (z.1.length : Int)) (fun z => z.2.2.1) nx2 (spK2 w tn b)) ((List.nil (α := Int)) ++ pb, (List.nil (α := Int)) ++ po, 0, ())) fun id z => if id = 0 then k (icO cx cy sd w h z.1 z.2.1) else none)
    else k icN else k icN else k icN else k icN else k icN else k icN := by kernel_rfl
set_option maxRecDepth 100000 in
theorem rmean_text (N n0 : Nat) (α : Type) (cx cy sd w h : Int) (pb po : List Int) (x y u v : Int) (k : AOut → Option α) : evFn real tab ((twY fnR1 spL).env real tab N (n0 + 8)) N Tryz.f37 α [.agg [.int .i64 cx, .int .i64 cy, .int .i64 sd, .int .i64 w, .int .i64 h, .ro (.int .i64) pb, .ro (.int .i64) po], .agg [.int .i64 x, .int .i64 y], .agg [.int .i64 u, .int .i64 v]] k =
    bif iceB cx cy sd w h pb po then bif plcB x y then bif plcB u v then bif decide (x ≤ u) then bif !decide (y ≤ v) then k (i3 0 0 2)
    else afterL (iterL N (bxG cx cy sd w x y u v (fun _ : Int × Int × Int × Unit => (pb.length : Int)) (fun z => z.2.2.1) (fun z => (z.1, z.2.1, IntKind.i64.wrap (z.2.2.1 + 1), ())) (rmeK pb)) (0, 0, 0, ())) fun id z => if id = 0 then k (i3 z.1 z.2.1 0) else none
    else k (i3 0 0 2) else k (i3 0 0 2) else k (i3 0 0 2) else k (i3 0 0 2) := by kernel_rfl
--FIN rfade | besom/besomref03.Fade | $ICB (b : Int) | $ICE, $I{b} | icO cx cy sd w h pb (chgL (fun _ => true) (fun i => wornV i b) po) ?? iceB $ICV && grnB b :: icN
theorem rfade_fin (cx cy sd w h : Int) (pb po : List Int) (b : Int) (hs : ∀ qSm ∈ ([.agg [.int .i64 cx, .int .i64 cy, .int .i64 sd, .int .i64 w, .int .i64 h, .ro (.int .i64) pb, .ro (.int .i64) po], .int .i64 b] : List AVal), Sm qSm) : ∃ N n, ∀ α (k : AOut → Option α), evFn real tab ((twY fnR1 spL).env real tab N n) N Tryz.f31 α [.agg [.int .i64 cx, .int .i64 cy, .int .i64 sd, .int .i64 w, .int .i64 h, .ro (.int .i64) pb, .ro (.int .i64) po], .int .i64 b] k = bif iceB cx cy sd w h pb po && grnB b then k (icO cx cy sd w h pb (chgL (fun _ => true) (fun i => wornV i b) po)) else k (icN) := by
  refine ⟨65537, 8, fun α k => (rfade_text 65537 0 α cx cy sd w h pb po b k).trans ?_⟩
  unfold grnB
  cases hI : iceB cx cy sd w h pb po
  · rfl
  cases decide (0 ≤ b)
  · rfl
  cases decide (b ≤ 1000)
  · rfl
  have g := ice_is _ _ _ _ _ _ _ hI
  have l1 := list_ok g.fw g.fh g.pl
  have l2 := list_ok g.fw g.fh g.ol
  simp only [Bool.not_true, Bool.and_self, cond_false, cond_true]
  rw [cop2_pos l1.2 l2.2, List.nil_append, List.nil_append]
  have key := count_loop (f := rfdF b) (K := fun id (z : St2) => if id = 0 then k (icO cx cy sd w h z.1 z.2.1) else none) (fun i : Nat => (pb, foldC (fun _ => true) (updL fun i => wornV i b) po i, (i : Int), ())) po.length (b := 0) (y := (pb, foldC (fun _ => true) (updL fun i => wornV i b) po po.length, (po.length : Int), ())) (fun i hi => ?_) ?_ (N := 65537) (by omega)
  · rw [fold_chg, if_pos rfl] at key; exact key
  · have hl := fold_len (fun _ => true) (fun i => wornV i b) po i
    unfold rfdF
    simp only
    rw [decide_eq_true (show (i : Int) < ((foldC (fun _ => true) (updL fun i => wornV i b) po i).length : Int) by omega), cond_true, in2_pos ⟨by omega, by omega⟩, in2_pos ⟨by omega, by omega⟩, i64_in _ (by omega), Int.toNat_natCast]
    rfl
  · have hl := fold_len (fun _ => true) (fun i => wornV i b) po po.length
    unfold rfdF
    simp only
    rw [decide_eq_false (by omega)]
    rfl
--CON rfade
noncomputable def rfadeS : Fsp := fun _ args k => match args with
  | [.agg [.int .i64 cx, .int .i64 cy, .int .i64 sd, .int .i64 w, .int .i64 h, .ro (.int .i64) pb, .ro (.int .i64) po], .int .i64 b] => bif iceB cx cy sd w h pb po && grnB b then k (icO cx cy sd w h pb (chgL (fun _ => true) (fun i => wornV i b) po)) else k (icN)
  | _ => none
theorem rfadeS_ok : FspOk Tryz.prog 31 rfadeS := tower_Y fnR1_ok spL_ok ⟨Tryz.func31, fun _ _ => by kernel_rfl⟩ (by intro α args k; unfold rfadeS; split <;> simp only [cond_bind, Option.bind_some, Option.bind_none]) fun args out hSm hEq => by
  unfold rfadeS at hEq
  split at hEq
  · rename_i cx cy sd w h pb po b
    obtain ⟨N, n, e⟩ := rfade_fin cx cy sd w h pb po b hSm
    exact ⟨N, n, (e AOut some).trans hEq⟩
  · cases hEq
--END
--FIN rscrape | besom/besomref03.Scrape | $ICB (x y u v b : Int) | $ICE, $S{x y}, $S{u v}, $I{b} | icO cx cy sd w h (chgL (fun i => inBx cx cy sd w x y u v i && true) (fun i => capV i b) pb) (chgL (fun i => inBx cx cy sd w x y u v i && true) (fun _ => 0) po) ?? bxvB $ICV x y u v && grnB b :: icN
theorem rscrape_fin (cx cy sd w h : Int) (pb po : List Int) (x y u v b : Int) (hs : ∀ qSm ∈ ([.agg [.int .i64 cx, .int .i64 cy, .int .i64 sd, .int .i64 w, .int .i64 h, .ro (.int .i64) pb, .ro (.int .i64) po], .agg [.int .i64 x, .int .i64 y], .agg [.int .i64 u, .int .i64 v], .int .i64 b] : List AVal), Sm qSm) : ∃ N n, ∀ α (k : AOut → Option α), evFn real tab ((twY fnR1 spL).env real tab N n) N Tryz.f33 α [.agg [.int .i64 cx, .int .i64 cy, .int .i64 sd, .int .i64 w, .int .i64 h, .ro (.int .i64) pb, .ro (.int .i64) po], .agg [.int .i64 x, .int .i64 y], .agg [.int .i64 u, .int .i64 v], .int .i64 b] k = bif bxvB cx cy sd w h pb po x y u v && grnB b then k (icO cx cy sd w h (chgL (fun i => inBx cx cy sd w x y u v i && true) (fun i => capV i b) pb) (chgL (fun i => inBx cx cy sd w x y u v i && true) (fun _ => 0) po)) else k (icN) := by
  refine ⟨65537, 8, fun α k => (rscrape_text 65537 0 α cx cy sd w h pb po x y u v b k).trans ?_⟩
  unfold bxvB grnB
  cases hI : iceB cx cy sd w h pb po
  · rfl
  cases plcB x y
  · rfl
  cases plcB u v
  · rfl
  cases decide (x ≤ u)
  · rfl
  cases decide (y ≤ v)
  · rfl
  cases decide (0 ≤ b)
  · rfl
  cases decide (b ≤ 1000)
  · rfl
  have g := ice_is _ _ _ _ _ _ _ hI
  have l1 := list_ok g.fw g.fh g.pl
  have l2 := list_ok g.fw g.fh g.ol
  obtain ⟨c1, c2⟩ := cels_le g.fw g.fh
  have hpl := g.pl
  have hol := g.ol
  simp only [Bool.not_true, Bool.and_self, cond_false, cond_true]
  rw [cop2_pos l1.2 l2.2, List.nil_append, List.nil_append]
  have key := bxG_loop cx cy sd w h pb po x y u v g (fun z : St2 => (z.1.length : Int)) (fun z => z.2.2.1) nx2 (scrK b) (fun i : Nat => (foldC (fun i => inBx cx cy sd w x y u v i && true) (updL fun i => capV i b) pb i, foldC (fun i => inBx cx cy sd w x y u v i && true) (updL fun _ => 0) po i, (i : Int), ())) (fun i => rfl) (fun i => ?_) (fun i hi hh => ?_) (fun i hi hh => ?_) (fun id z => if id = 0 then k (icO cx cy sd w h z.1 z.2.1) else none) (N := 65537) (by omega)
  · rw [show cels w h = pb.length by omega] at key
    rw [fold_chg, show pb.length = po.length by omega, fold_chg, if_pos rfl] at key
    exact key
  · have := fold_len (fun i => inBx cx cy sd w x y u v i && true) (fun i => capV i b) pb i
    show (((foldC _ _ pb i).length : Nat) : Int) = w * h
    omega
  · have a1 := fold_len (fun i => inBx cx cy sd w x y u v i && true) (fun i => capV i b) pb i
    have a2 := fold_len (fun i => inBx cx cy sd w x y u v i && true) (fun _ => 0) po i
    unfold scrK
    simp only
    rw [in2_pos ⟨by omega, by omega⟩, in2_pos ⟨by omega, by omega⟩, in2_pos ⟨by omega, by omega⟩, i64_in _ (by omega), Int.toNat_natCast]
    simp only [foldC, hh, Bool.and_self, cond_true]
    rfl
  · show (_, _, IntKind.i64.wrap ((i : Int) + 1), ()) = _
    rw [i64_in _ (by omega)]
    simp only [foldC, hh, Bool.false_and, cond_false]
    rfl
--CON rscrape
noncomputable def rscrapeS : Fsp := fun _ args k => match args with
  | [.agg [.int .i64 cx, .int .i64 cy, .int .i64 sd, .int .i64 w, .int .i64 h, .ro (.int .i64) pb, .ro (.int .i64) po], .agg [.int .i64 x, .int .i64 y], .agg [.int .i64 u, .int .i64 v], .int .i64 b] => bif bxvB cx cy sd w h pb po x y u v && grnB b then k (icO cx cy sd w h (chgL (fun i => inBx cx cy sd w x y u v i && true) (fun i => capV i b) pb) (chgL (fun i => inBx cx cy sd w x y u v i && true) (fun _ => 0) po)) else k (icN)
  | _ => none
theorem rscrapeS_ok : FspOk Tryz.prog 33 rscrapeS := tower_Y fnR1_ok spL_ok ⟨Tryz.func33, fun _ _ => by kernel_rfl⟩ (by intro α args k; unfold rscrapeS; split <;> simp only [cond_bind, Option.bind_some, Option.bind_none]) fun args out hSm hEq => by
  unfold rscrapeS at hEq
  split at hEq
  · rename_i cx cy sd w h pb po x y u v b
    obtain ⟨N, n, e⟩ := rscrape_fin cx cy sd w h pb po x y u v b hSm
    exact ⟨N, n, (e AOut some).trans hEq⟩
  · cases hEq
--END
--FIN rspray | besom/besomref03.Spray | $ICB (x y u v b tn : Int) | $ICE, $S{x y}, $S{u v}, $I{b}, $I{tn} | icO cx cy sd w h (chgL (fun i => inBx cx cy sd w x y u v i && sprB w tn i) (fun i => moreV i b) pb) po ?? bxvB $ICV x y u v && (grnB b && (decide (0 ≤ tn) && decide (tn ≤ 1))) :: icN
theorem rspray_fin (cx cy sd w h : Int) (pb po : List Int) (x y u v b tn : Int) (hs : ∀ qSm ∈ ([.agg [.int .i64 cx, .int .i64 cy, .int .i64 sd, .int .i64 w, .int .i64 h, .ro (.int .i64) pb, .ro (.int .i64) po], .agg [.int .i64 x, .int .i64 y], .agg [.int .i64 u, .int .i64 v], .int .i64 b, .int .i64 tn] : List AVal), Sm qSm) : ∃ N n, ∀ α (k : AOut → Option α), evFn real tab ((twY fnR1 spL).env real tab N n) N Tryz.f35 α [.agg [.int .i64 cx, .int .i64 cy, .int .i64 sd, .int .i64 w, .int .i64 h, .ro (.int .i64) pb, .ro (.int .i64) po], .agg [.int .i64 x, .int .i64 y], .agg [.int .i64 u, .int .i64 v], .int .i64 b, .int .i64 tn] k = bif bxvB cx cy sd w h pb po x y u v && (grnB b && (decide (0 ≤ tn) && decide (tn ≤ 1))) then k (icO cx cy sd w h (chgL (fun i => inBx cx cy sd w x y u v i && sprB w tn i) (fun i => moreV i b) pb) po) else k (icN) := by
  refine ⟨65537, 8, fun α k => (rspray_text 65537 0 α cx cy sd w h pb po x y u v b tn k).trans ?_⟩
  unfold bxvB grnB
  cases hI : iceB cx cy sd w h pb po
  · rfl
  cases plcB x y
  · rfl
  cases plcB u v
  · rfl
  cases decide (x ≤ u)
  · rfl
  cases decide (y ≤ v)
  · rfl
  cases decide (0 ≤ b)
  · rfl
  cases decide (b ≤ 1000)
  · rfl
  cases h1 : decide (0 ≤ tn)
  · rfl
  cases h2 : decide (tn ≤ 1)
  · rfl
  have t1 := of_decide_eq_true h1
  have t2 := of_decide_eq_true h2
  have g := ice_is _ _ _ _ _ _ _ hI
  have l1 := list_ok g.fw g.fh g.pl
  have l2 := list_ok g.fw g.fh g.ol
  obtain ⟨c1, c2⟩ := cels_le g.fw g.fh
  have hpl := g.pl
  have gw := g.fw
  simp only [Bool.not_true, Bool.and_self, cond_false, cond_true]
  rw [cop2_pos l1.2 l2.2, List.nil_append, List.nil_append]
  have key := bxG_loop cx cy sd w h pb po x y u v g (fun z : St2 => (z.1.length : Int)) (fun z => z.2.2.1) nx2 (spK2 w tn b) (fun i : Nat => (foldC (fun i => inBx cx cy sd w x y u v i && sprB w tn i) (updL fun i => moreV i b) pb i, po, (i : Int), ())) (fun i => rfl) (fun i => ?_) (fun i hi hh => ?_) (fun i hi hh => ?_) (fun id z => if id = 0 then k (icO cx cy sd w h z.1 z.2.1) else none) (N := 65537) (by omega)
  · rw [show cels w h = pb.length by omega] at key
    rw [fold_chg, if_pos rfl] at key
    exact key
  · have := fold_len (fun i => inBx cx cy sd w x y u v i && sprB w tn i) (fun i => moreV i b) pb i
    show (((foldC _ _ pb i).length : Nat) : Int) = w * h
    omega
  · have a1 := fold_len (fun i => inBx cx cy sd w x y u v i && sprB w tn i) (fun i => moreV i b) pb i
    have a := Int.emod_nonneg (i : Int) (show w ≠ 0 by omega)
    have b' := Int.emod_lt_of_pos (i : Int) (show 0 < w by omega)
    have c := Int.ediv_nonneg (show (0 : Int) ≤ i by omega) (show 0 ≤ w by omega)
    have d : (i : Int) / w ≤ i := Int.ediv_le_self _ (by omega)
    unfold spK2
    simp only
    rw [if_neg (by omega), if_neg (by omega), in2_pos ⟨by omega, by omega⟩, in2_pos ⟨by omega, by omega⟩, Int.tmod_eq_emod_of_nonneg (show (0 : Int) ≤ i by omega), tdiv_pos (by omega), i64_in ((i : Int) / w) (by omega), i64_in ((i : Int) % w + (i : Int) / w) (by omega), i64_in ((i : Int) % w + (i : Int) / w + tn) (by omega), Int.tmod_eq_emod_of_nonneg (by omega), i64_in ((i : Int) + 1) (by omega), Int.toNat_natCast]
    have hs : (((i : Int) % w + (i : Int) / w + tn) % 2 == 0) = sprB w tn i := rfl
    rw [hs]
    simp only [foldC, hh, Bool.true_and]
    cases sprB w tn i
    · simp only [cond_false, nx2]
      rw [i64_in ((i : Int) + 1) (by omega)]
      rfl
    · rfl
  · show (_, _, IntKind.i64.wrap ((i : Int) + 1), ()) = _
    rw [i64_in _ (by omega)]
    simp only [foldC, hh, Bool.false_and, cond_false]
    rfl
--CON rspray
noncomputable def rsprayS : Fsp := fun _ args k => match args with
  | [.agg [.int .i64 cx, .int .i64 cy, .int .i64 sd, .int .i64 w, .int .i64 h, .ro (.int .i64) pb, .ro (.int .i64) po], .agg [.int .i64 x, .int .i64 y], .agg [.int .i64 u, .int .i64 v], .int .i64 b, .int .i64 tn] => bif bxvB cx cy sd w h pb po x y u v && (grnB b && (decide (0 ≤ tn) && decide (tn ≤ 1))) then k (icO cx cy sd w h (chgL (fun i => inBx cx cy sd w x y u v i && sprB w tn i) (fun i => moreV i b) pb) po) else k (icN)
  | _ => none
theorem rsprayS_ok : FspOk Tryz.prog 35 rsprayS := tower_Y fnR1_ok spL_ok ⟨Tryz.func35, fun _ _ => by kernel_rfl⟩ (by intro α args k; unfold rsprayS; split <;> simp only [cond_bind, Option.bind_some, Option.bind_none]) fun args out hSm hEq => by
  unfold rsprayS at hEq
  split at hEq
  · rename_i cx cy sd w h pb po x y u v b tn
    obtain ⟨N, n, e⟩ := rspray_fin cx cy sd w h pb po x y u v b tn hSm
    exact ⟨N, n, (e AOut some).trans hEq⟩
  · cases hEq
--END
--FIN rmean | besom/besomref03.Mean | $ICB (x y u v : Int) | $ICE, $S{x y}, $S{u v} | i3 (meaS (fun i => inBx cx cy sd w x y u v i) pb (cels w h)) (meaN (fun i => inBx cx cy sd w x y u v i) (cels w h)) 0 ?? bxvB $ICV x y u v :: i3 0 0 2
theorem rmean_fin (cx cy sd w h : Int) (pb po : List Int) (x y u v : Int) (hs : ∀ qSm ∈ ([.agg [.int .i64 cx, .int .i64 cy, .int .i64 sd, .int .i64 w, .int .i64 h, .ro (.int .i64) pb, .ro (.int .i64) po], .agg [.int .i64 x, .int .i64 y], .agg [.int .i64 u, .int .i64 v]] : List AVal), Sm qSm) : ∃ N n, ∀ α (k : AOut → Option α), evFn real tab ((twY fnR1 spL).env real tab N n) N Tryz.f37 α [.agg [.int .i64 cx, .int .i64 cy, .int .i64 sd, .int .i64 w, .int .i64 h, .ro (.int .i64) pb, .ro (.int .i64) po], .agg [.int .i64 x, .int .i64 y], .agg [.int .i64 u, .int .i64 v]] k = bif bxvB cx cy sd w h pb po x y u v then k (i3 (meaS (fun i => inBx cx cy sd w x y u v i) pb (cels w h)) (meaN (fun i => inBx cx cy sd w x y u v i) (cels w h)) 0) else k (i3 0 0 2) := by
  refine ⟨65537, 8, fun α k => (rmean_text 65537 0 α cx cy sd w h pb po x y u v k).trans ?_⟩
  unfold bxvB
  cases hI : iceB cx cy sd w h pb po
  · rfl
  cases plcB x y
  · rfl
  cases plcB u v
  · rfl
  cases decide (x ≤ u)
  · rfl
  cases decide (y ≤ v)
  · rfl
  have g := ice_is _ _ _ _ _ _ _ hI
  obtain ⟨c1, c2⟩ := cels_le g.fw g.fh
  have hpl := g.pl
  simp only [Bool.not_true, Bool.and_self, cond_false, cond_true]
  have key := bxG_loop cx cy sd w h pb po x y u v g (fun _ : Int × Int × Int × Unit => (pb.length : Int)) (fun z => z.2.2.1) (fun z => (z.1, z.2.1, IntKind.i64.wrap (z.2.2.1 + 1), ())) (rmeK pb) (fun i : Nat => (meaS (fun i => inBx cx cy sd w x y u v i) pb i, meaN (fun i => inBx cx cy sd w x y u v i) i, (i : Int), ())) (fun i => rfl) (fun i => hpl) (fun i hi hh => ?_) (fun i hi hh => ?_) (fun id z => if id = 0 then k (i3 z.1 z.2.1 0) else none) (N := 65537) (by omega)
  · rw [if_pos rfl] at key
    exact key
  · have m := mea_in (fun i => inBx cx cy sd w x y u v i) g.pg i
    have a := grn_at g.pg i
    unfold rmeK
    simp only
    rw [in2_pos ⟨by omega, by omega⟩, Int.toNat_natCast, i64_in ((i : Int) + 1) (by omega), i64_in (meaS (fun i => inBx cx cy sd w x y u v i) pb i + pb.getD i 0) (by omega), i64_in (meaN (fun i => inBx cx cy sd w x y u v i) i + 1) (by omega)]
    unfold meaS meaN
    simp only [foldC, hh, cond_true]
    rfl
  · show (_, _, IntKind.i64.wrap ((i : Int) + 1), ()) = _
    rw [i64_in ((i : Int) + 1) (by omega)]
    unfold meaS meaN
    simp only [foldC, hh, cond_false]
    rfl
--CON rmean
noncomputable def rmeanS : Fsp := fun _ args k => match args with
  | [.agg [.int .i64 cx, .int .i64 cy, .int .i64 sd, .int .i64 w, .int .i64 h, .ro (.int .i64) pb, .ro (.int .i64) po], .agg [.int .i64 x, .int .i64 y], .agg [.int .i64 u, .int .i64 v]] => bif bxvB cx cy sd w h pb po x y u v then k (i3 (meaS (fun i => inBx cx cy sd w x y u v i) pb (cels w h)) (meaN (fun i => inBx cx cy sd w x y u v i) (cels w h)) 0) else k (i3 0 0 2)
  | _ => none
theorem rmeanS_ok : FspOk Tryz.prog 37 rmeanS := tower_Y fnR1_ok spL_ok ⟨Tryz.func37, fun _ _ => by kernel_rfl⟩ (by intro α args k; unfold rmeanS; split <;> simp only [cond_bind, Option.bind_some, Option.bind_none]) fun args out hSm hEq => by
  unfold rmeanS at hEq
  split at hEq
  · rename_i cx cy sd w h pb po x y u v
    obtain ⟨N, n, e⟩ := rmean_fin cx cy sd w h pb po x y u v hSm
    exact ⟨N, n, (e AOut some).trans hEq⟩
  · cases hEq
--END
--FS fnR7 | fnR1 | rfade;rscrape;rspray;rmean
noncomputable def fnR7 : FuncId → Option Fsp := fun g =>
  if g = 31 then some rfadeS else
  if g = 33 then some rscrapeS else
  if g = 35 then some rsprayS else
  if g = 37 then some rmeanS else
  fnR1 g
theorem fnR7_ok : FsOk fnR7 :=
  fs_cons rfadeS_ok <|
  fs_cons rscrapeS_ok <|
  fs_cons rsprayS_ok <|
  fs_cons rmeanS_ok <|
  fnR1_ok
--END
end Go.Proofs.YtbcjhjidhhecaaaGreat

/- Contracts of the ice without cases: their results as total functions. -/
namespace Go.Proofs.YtbcjhjidhhecaaaGreat
open Go.RowKit

/-- Whatever is the one is the other. -/
def SimV (u v : AVal) : Prop := ∀ (h : List ABlk) (g : Gh) (w : World) (x : Value), Rep h g w u x → Rep h g w v x
theorem SimV.refl (u : AVal) : SimV u u := fun _ _ _ _ r => r
theorem simV_nils (e : Sh) : SimV .nils (.ro e []) := fun _ _ _ _ r => Sim.rep (.inr ⟨rfl, e, rfl⟩) r
def SimVs : List AVal → List AVal → Prop
  | [], [] => True
  | a :: l, b :: m => SimV a b ∧ SimVs l m
  | _, _ => False
theorem simVs_at : ∀ {l m : List AVal}, SimVs l m → l.length = m.length ∧ ∀ (j : Nat) a b, l[j]? = some a → m[j]? = some b → SimV a b
  | [], [], _ => ⟨rfl, fun j a b ha => by simp at ha⟩
  | a :: l, b :: m, h => by
    obtain ⟨h1, h2⟩ := simVs_at h.2
    refine ⟨by simp [h1], fun j u v hu hv => ?_⟩
    cases j with
    | zero => cases hu; cases hv; exact h.1
    | succ j => exact h2 j u v (by simpa using hu) (by simpa using hv)
  | [], _ :: _, h => by cases h
  | _ :: _, [], h => by cases h
theorem simV_agg {l m : List AVal} (h : SimVs l m) : SimV (.agg l) (.agg m) := fun _ _ _ x r => by
  obtain ⟨h1, h2⟩ := simVs_at h
  cases r with
  | agg _ arr hl hr => exact .agg m arr (by omega) fun j c y hc hy => h2 j _ c (List.getElem?_eq_getElem (by have := (List.getElem?_eq_some_iff.1 hc).1; omega)) hc _ _ _ _ (hr j _ y (List.getElem?_eq_getElem (by have := (List.getElem?_eq_some_iff.1 hc).1; omega)) hy)
theorem simV_tup {l m : List AVal} (h : SimVs l m) : SimV (.tup l) (.tup m) := fun _ _ _ x r => by
  obtain ⟨h1, h2⟩ := simVs_at h
  cases r with
  | tup _ arr hl hr => exact .tup m arr (by omega) fun j c y hc hy => h2 j _ c (List.getElem?_eq_getElem (by have := (List.getElem?_eq_some_iff.1 hc).1; omega)) hc _ _ _ _ (hr j _ y (List.getElem?_eq_getElem (by have := (List.getElem?_eq_some_iff.1 hc).1; omega)) hy)
/-- A contract that says less. -/
theorem fsp_sim {P : Program} {f : FuncId} {S S' : Fsp} (h : FspOk P f S) (hn : ∀ (α : Type) args (k : AOut → Option α), S' α args k = (S' AOut args some).bind k)
    (hs : ∀ args out, S' AOut args some = some out → ∃ v v', out = .ret v' ∧ S AOut args some = some (.ret v) ∧ SimV v v') : FspOk P f S' where
  enter := h.enter
  nat := hn
  calls := fun args out hout M w cargs hM hl hr => by
    obtain ⟨v, v', rfl, h1, h2⟩ := hs args out hout
    refine (h.calls args (.ret v) h1 M w cargs hM hl hr).mono fun e w' hp => ?_
    obtain ⟨M', m1, m2, m3, hb, x, he, hx⟩ := hp
    exact ⟨M', m1, m2, m3, hb, x, he, h2 _ _ _ _ hx⟩
def selI (c : Bool) (x : Int) : Int := bif c then x else 0
def selL (c : Bool) (l : List Int) : List Int := bif c then l else []
/-- Ice, or its error. -/
def icT (c : Bool) (cx cy sd w h : Int) (l1 l2 : List Int) : AOut := .ret (.tup [.agg [.int .i64 (selI c cx), .int .i64 (selI c cy), .int .i64 (selI c sd), .int .i64 (selI c w), .int .i64 (selI c h), .ro (.int .i64) (selL c l1), .ro (.int .i64) (selL c l2)], .int .i64 (er2 c)])
theorem ic_tot (c : Bool) (cx cy sd w h : Int) (l1 l2 : List Int) : ∃ v v', icT c cx cy sd w h l1 l2 = .ret v' ∧ (bif c then some (icO cx cy sd w h l1 l2) else some icN) = some (.ret v) ∧ SimV v v' := by
  cases c
  · refine ⟨_, _, rfl, rfl, simV_tup ⟨simV_agg ⟨.refl _, .refl _, .refl _, .refl _, .refl _, simV_nils _, simV_nils _, trivial⟩, .refl _, trivial⟩⟩
  · exact ⟨_, _, rfl, rfl, .refl _⟩
def i3T (c : Bool) (a b : Int) : AOut := i3 (selI c a) (selI c b) (er2 c)
theorem i3_tot (c : Bool) (a b : Int) : ∃ v v', i3T c a b = .ret v' ∧ (bif c then some (i3 a b 0) else some (i3 0 0 2)) = some (.ret v) ∧ SimV v v' := by
  cases c
  · exact ⟨_, _, rfl, rfl, .refl _⟩
  · exact ⟨_, _, rfl, rfl, .refl _⟩
noncomputable def ipassTS : Fsp := fun _ args k => match args with
  | [.agg [.int .i64 cx, .int .i64 cy, .int .i64 sd, .int .i64 w, .int .i64 h, .ro (.int .i64) pb, .ro (.int .i64) po], .agg [.int .i64 fl, .int .i64 ke, .int .i64 sw, .int .i64 be, .int .i64 we], .agg [.int .i64 x, .int .i64 y], .agg [.int .i64 u, .int .i64 v]] => k (icT (pasB cx cy sd w h pb po fl ke sw be we x y u v) cx cy sd w h (chgL (fun i => toB cx cy sd w x y u v i) (fun i => wornV i we) pb) po)
  | _ => none
theorem ipassTS_ok : FspOk Tryz.prog 23 ipassTS := fsp_sim ipassS_ok (by intro α args k; unfold ipassTS; split <;> rfl) fun args out hq => by
  unfold ipassTS at hq
  split at hq
  · rename_i cx cy sd w h pb po fl ke sw be we x y u v
    cases hq
    obtain ⟨v1, v2, e1, e2, e3⟩ := ic_tot (pasB cx cy sd w h pb po fl ke sw be we x y u v) cx cy sd w h (chgL (fun i => toB cx cy sd w x y u v i) (fun i => wornV i we) pb) po
    refine ⟨v1, v2, e1, ?_, e3⟩
    rw [← e2]
    rfl
  · cases hq
noncomputable def isweepTS : Fsp := fun _ args k => match args with
  | [.agg [.int .i64 cx, .int .i64 cy, .int .i64 sd, .int .i64 w, .int .i64 h, .ro (.int .i64) pb, .ro (.int .i64) po], .agg [.int .i64 x, .int .i64 y], .agg [.int .i64 u, .int .i64 v], .int .i64 b] => k (icT (twB cx cy sd w h pb po x y u v && grnB b) cx cy sd w h pb (chgL (fun i => toB cx cy sd w x y u v i) (fun i => moreV i b) po))
  | _ => none
theorem isweepTS_ok : FspOk Tryz.prog 25 isweepTS := fsp_sim isweepS_ok (by intro α args k; unfold isweepTS; split <;> rfl) fun args out hq => by
  unfold isweepTS at hq
  split at hq
  · rename_i cx cy sd w h pb po x y u v b
    cases hq
    obtain ⟨v1, v2, e1, e2, e3⟩ := ic_tot (twB cx cy sd w h pb po x y u v && grnB b) cx cy sd w h pb (chgL (fun i => toB cx cy sd w x y u v i) (fun i => moreV i b) po)
    refine ⟨v1, v2, e1, ?_, e3⟩
    rw [← e2]
    rfl
  · cases hq
noncomputable def ifadeTS : Fsp := fun _ args k => match args with
  | [.agg [.int .i64 cx, .int .i64 cy, .int .i64 sd, .int .i64 w, .int .i64 h, .ro (.int .i64) pb, .ro (.int .i64) po], .int .i64 b] => k (icT (iceB cx cy sd w h pb po && grnB b) cx cy sd w h pb (chgL (fun _ => true) (fun i => wornV i b) po))
  | _ => none
theorem ifadeTS_ok : FspOk Tryz.prog 30 ifadeTS := fsp_sim ifadeS_ok (by intro α args k; unfold ifadeTS; split <;> rfl) fun args out hq => by
  unfold ifadeTS at hq
  split at hq
  · rename_i cx cy sd w h pb po b
    cases hq
    obtain ⟨v1, v2, e1, e2, e3⟩ := ic_tot (iceB cx cy sd w h pb po && grnB b) cx cy sd w h pb (chgL (fun _ => true) (fun i => wornV i b) po)
    refine ⟨v1, v2, e1, ?_, e3⟩
    rw [← e2]
    rfl
  · cases hq
noncomputable def isprayTS : Fsp := fun _ args k => match args with
  | [.agg [.int .i64 cx, .int .i64 cy, .int .i64 sd, .int .i64 w, .int .i64 h, .ro (.int .i64) pb, .ro (.int .i64) po], .agg [.int .i64 x, .int .i64 y], .agg [.int .i64 u, .int .i64 v], .int .i64 b, .int .i64 tn] => k (icT (bxvB cx cy sd w h pb po x y u v && (grnB b && (decide (0 ≤ tn) && decide (tn ≤ 1)))) cx cy sd w h (chgL (fun i => inBx cx cy sd w x y u v i && sprB w tn i) (fun i => moreV i b) pb) po)
  | _ => none
theorem isprayTS_ok : FspOk Tryz.prog 34 isprayTS := fsp_sim isprayS_ok (by intro α args k; unfold isprayTS; split <;> rfl) fun args out hq => by
  unfold isprayTS at hq
  split at hq
  · rename_i cx cy sd w h pb po x y u v b tn
    cases hq
    obtain ⟨v1, v2, e1, e2, e3⟩ := ic_tot (bxvB cx cy sd w h pb po x y u v && (grnB b && (decide (0 ≤ tn) && decide (tn ≤ 1)))) cx cy sd w h (chgL (fun i => inBx cx cy sd w x y u v i && sprB w tn i) (fun i => moreV i b) pb) po
    refine ⟨v1, v2, e1, ?_, e3⟩
    rw [← e2]
    rfl
  · cases hq
noncomputable def imeanTS : Fsp := fun _ args k => match args with
  | [.agg [.int .i64 cx, .int .i64 cy, .int .i64 sd, .int .i64 w, .int .i64 h, .ro (.int .i64) pb, .ro (.int .i64) po], .agg [.int .i64 x, .int .i64 y], .agg [.int .i64 u, .int .i64 v]] => k (i3T (bxvB cx cy sd w h pb po x y u v) (meaS (fun i => inBx cx cy sd w x y u v i) pb (cels w h)) (meaN (fun i => inBx cx cy sd w x y u v i) (cels w h)))
  | _ => none
theorem imeanTS_ok : FspOk Tryz.prog 36 imeanTS := fsp_sim imeanS_ok (by intro α args k; unfold imeanTS; split <;> rfl) fun args out hq => by
  unfold imeanTS at hq
  split at hq
  · rename_i cx cy sd w h pb po x y u v
    cases hq
    obtain ⟨v1, v2, e1, e2, e3⟩ := i3_tot (bxvB cx cy sd w h pb po x y u v) (meaS (fun i => inBx cx cy sd w x y u v i) pb (cels w h)) (meaN (fun i => inBx cx cy sd w x y u v i) (cels w h))
    refine ⟨v1, v2, e1, ?_, e3⟩
    rw [← e2]
    rfl
  · cases hq
noncomputable def iscrapeTS : Fsp := fun _ args k => match args with
  | [.agg [.int .i64 cx, .int .i64 cy, .int .i64 sd, .int .i64 w, .int .i64 h, .ro (.int .i64) pb, .ro (.int .i64) po], .agg [.int .i64 x, .int .i64 y], .agg [.int .i64 u, .int .i64 v], .int .i64 b] => k (icT (bxvB cx cy sd w h pb po x y u v && grnB b) cx cy sd w h (chgL (fun i => inBx cx cy sd w x y u v i && true) (fun i => capV i b) pb) (chgL (fun i => inBx cx cy sd w x y u v i && true) (fun _ => 0) po))
  | _ => none
theorem iscrapeTS_ok : FspOk Tryz.prog 32 iscrapeTS := fsp_sim iscrapeS_ok (by intro α args k; unfold iscrapeTS; split <;> rfl) fun args out hq => by
  unfold iscrapeTS at hq
  split at hq
  · rename_i cx cy sd w h pb po x y u v b
    cases hq
    obtain ⟨v1, v2, e1, e2, e3⟩ := ic_tot (bxvB cx cy sd w h pb po x y u v && grnB b) cx cy sd w h (chgL (fun i => inBx cx cy sd w x y u v i && true) (fun i => capV i b) pb) (chgL (fun i => inBx cx cy sd w x y u v i && true) (fun _ => 0) po)
    refine ⟨v1, v2, e1, ?_, e3⟩
    rw [← e2]
    rfl
  · cases hq
--FS fsI12 | fsI9 | ipassT=besom/ice.Pass;isweepT=besom/ice.Sweep;ifadeT=besom/ice.Fade;isprayT=besom/ice.Spray;imeanT=besom/ice.Mean;iscrapeT=besom/ice.Scrape
noncomputable def fsI12 : FuncId → Option Fsp := fun g =>
  if g = 23 then some ipassTS else
  if g = 25 then some isweepTS else
  if g = 30 then some ifadeTS else
  if g = 34 then some isprayTS else
  if g = 36 then some imeanTS else
  if g = 32 then some iscrapeTS else
  fsI9 g
theorem fsI12_ok : FsOk fsI12 :=
  fs_cons ipassTS_ok <|
  fs_cons isweepTS_ok <|
  fs_cons ifadeTS_ok <|
  fs_cons isprayTS_ok <|
  fs_cons imeanTS_ok <|
  fs_cons iscrapeTS_ok <|
  fsI9_ok
--END
end Go.Proofs.YtbcjhjidhhecaaaGreat

/- The reference's contracts without cases. -/
namespace Go.Proofs.YtbcjhjidhhecaaaGreat
open Go.RowKit

noncomputable def rfadeTS : Fsp := fun _ args k => match args with
  | [.agg [.int .i64 cx, .int .i64 cy, .int .i64 sd, .int .i64 w, .int .i64 h, .ro (.int .i64) pb, .ro (.int .i64) po], .int .i64 b] => k (icT (iceB cx cy sd w h pb po && grnB b) cx cy sd w h pb (chgL (fun _ => true) (fun i => wornV i b) po))
  | _ => none
theorem rfadeTS_ok : FspOk Tryz.prog 31 rfadeTS := fsp_sim rfadeS_ok (by intro α args k; unfold rfadeTS; split <;> rfl) fun args out hq => by
  unfold rfadeTS at hq
  split at hq
  · rename_i cx cy sd w h pb po b
    cases hq
    obtain ⟨v1, v2, e1, e2, e3⟩ := ic_tot (iceB cx cy sd w h pb po && grnB b) cx cy sd w h pb (chgL (fun _ => true) (fun i => wornV i b) po)
    refine ⟨v1, v2, e1, ?_, e3⟩
    rw [← e2]
    rfl
  · cases hq
noncomputable def rsprayTS : Fsp := fun _ args k => match args with
  | [.agg [.int .i64 cx, .int .i64 cy, .int .i64 sd, .int .i64 w, .int .i64 h, .ro (.int .i64) pb, .ro (.int .i64) po], .agg [.int .i64 x, .int .i64 y], .agg [.int .i64 u, .int .i64 v], .int .i64 b, .int .i64 tn] => k (icT (bxvB cx cy sd w h pb po x y u v && (grnB b && (decide (0 ≤ tn) && decide (tn ≤ 1)))) cx cy sd w h (chgL (fun i => inBx cx cy sd w x y u v i && sprB w tn i) (fun i => moreV i b) pb) po)
  | _ => none
theorem rsprayTS_ok : FspOk Tryz.prog 35 rsprayTS := fsp_sim rsprayS_ok (by intro α args k; unfold rsprayTS; split <;> rfl) fun args out hq => by
  unfold rsprayTS at hq
  split at hq
  · rename_i cx cy sd w h pb po x y u v b tn
    cases hq
    obtain ⟨v1, v2, e1, e2, e3⟩ := ic_tot (bxvB cx cy sd w h pb po x y u v && (grnB b && (decide (0 ≤ tn) && decide (tn ≤ 1)))) cx cy sd w h (chgL (fun i => inBx cx cy sd w x y u v i && sprB w tn i) (fun i => moreV i b) pb) po
    refine ⟨v1, v2, e1, ?_, e3⟩
    rw [← e2]
    rfl
  · cases hq
noncomputable def rmeanTS : Fsp := fun _ args k => match args with
  | [.agg [.int .i64 cx, .int .i64 cy, .int .i64 sd, .int .i64 w, .int .i64 h, .ro (.int .i64) pb, .ro (.int .i64) po], .agg [.int .i64 x, .int .i64 y], .agg [.int .i64 u, .int .i64 v]] => k (i3T (bxvB cx cy sd w h pb po x y u v) (meaS (fun i => inBx cx cy sd w x y u v i) pb (cels w h)) (meaN (fun i => inBx cx cy sd w x y u v i) (cels w h)))
  | _ => none
theorem rmeanTS_ok : FspOk Tryz.prog 37 rmeanTS := fsp_sim rmeanS_ok (by intro α args k; unfold rmeanTS; split <;> rfl) fun args out hq => by
  unfold rmeanTS at hq
  split at hq
  · rename_i cx cy sd w h pb po x y u v
    cases hq
    obtain ⟨v1, v2, e1, e2, e3⟩ := i3_tot (bxvB cx cy sd w h pb po x y u v) (meaS (fun i => inBx cx cy sd w x y u v i) pb (cels w h)) (meaN (fun i => inBx cx cy sd w x y u v i) (cels w h))
    refine ⟨v1, v2, e1, ?_, e3⟩
    rw [← e2]
    rfl
  · cases hq
noncomputable def rscrapeTS : Fsp := fun _ args k => match args with
  | [.agg [.int .i64 cx, .int .i64 cy, .int .i64 sd, .int .i64 w, .int .i64 h, .ro (.int .i64) pb, .ro (.int .i64) po], .agg [.int .i64 x, .int .i64 y], .agg [.int .i64 u, .int .i64 v], .int .i64 b] => k (icT (bxvB cx cy sd w h pb po x y u v && grnB b) cx cy sd w h (chgL (fun i => inBx cx cy sd w x y u v i && true) (fun i => capV i b) pb) (chgL (fun i => inBx cx cy sd w x y u v i && true) (fun _ => 0) po))
  | _ => none
theorem rscrapeTS_ok : FspOk Tryz.prog 33 rscrapeTS := fsp_sim rscrapeS_ok (by intro α args k; unfold rscrapeTS; split <;> rfl) fun args out hq => by
  unfold rscrapeTS at hq
  split at hq
  · rename_i cx cy sd w h pb po x y u v b
    cases hq
    obtain ⟨v1, v2, e1, e2, e3⟩ := ic_tot (bxvB cx cy sd w h pb po x y u v && grnB b) cx cy sd w h (chgL (fun i => inBx cx cy sd w x y u v i && true) (fun i => capV i b) pb) (chgL (fun i => inBx cx cy sd w x y u v i && true) (fun _ => 0) po)
    refine ⟨v1, v2, e1, ?_, e3⟩
    rw [← e2]
    rfl
  · cases hq
end Go.Proofs.YtbcjhjidhhecaaaGreat

/- IceMaker: it answers true. -/
namespace Go.Proofs.YtbcjhjidhhecaaaGreat
open Go.RowKit

--FS fsIm | fsI12 | ialive=besom/besomlaw03.alive;isame=besom/besomref03.Same;rfadeT=besom/besomref03.Fade;rscrapeT=besom/besomref03.Scrape;rsprayT=besom/besomref03.Spray;rmeanT=besom/besomref03.Mean
noncomputable def fsIm : FuncId → Option Fsp := fun g =>
  if g = 8 then some ialiveS else
  if g = 29 then some isameS else
  if g = 31 then some rfadeTS else
  if g = 33 then some rscrapeTS else
  if g = 35 then some rsprayTS else
  if g = 37 then some rmeanTS else
  fsI12 g
theorem fsIm_ok : FsOk fsIm :=
  fs_cons ialiveS_ok <|
  fs_cons isameS_ok <|
  fs_cons rfadeTS_ok <|
  fs_cons rscrapeTS_ok <|
  fs_cons rsprayTS_ok <|
  fs_cons rmeanTS_ok <|
  fsI12_ok
--END
--AT fsIm spL twV
--TEXT imaker | twV fsIm spL | 8 | besom/besomlaw03.IceMaker | $ICB (x y u v b tn : Int) | $ICE, $S{x y}, $S{u v}, $I{b}, $I{tn}
--KEY 1e95aaddb4
set_option maxRecDepth 100000 in
theorem imaker_text (N n0 : Nat) (α : Type) (cx cy sd w h : Int) (pb po : List Int) (x y u v b tn : Int) (k : AOut → Option α) : evFn real tab ((twV fsIm spL).env real tab N (n0 + 8)) N Tryz.f6 α [.agg [.int .i64 cx, .int .i64 cy, .int .i64 sd, .int .i64 w, .int .i64 h, .ro (.int .i64) pb, .ro (.int .i64) po], .agg [.int .i64 x, .int .i64 y], .agg [.int .i64 u, .int .i64 v], .int .i64 b, .int .i64 tn] k =
  bif decide ((↑pb.length : Int) > 1000) then k (AOut.ret (AVal.bool true))
  else
    bif decide ((↑po.length : Int) > 1000) then k (AOut.ret (AVal.bool true))
    else
      if ((List.nil (α := Int)).length + pb.length) * 8 ≤ room then
        if ((List.nil (α := Int)).length + po.length) * 8 ≤ room then
          bif
              sameB (selI (iceB cx cy sd w h ([] ++ pb) ([] ++ po) && grnB b) cx)
                (selI (iceB cx cy sd w h ([] ++ pb) ([] ++ po) && grnB b) cy)
                (selI (iceB cx cy sd w h ([] ++ pb) ([] ++ po) && grnB b) sd)
                (selI (iceB cx cy sd w h ([] ++ pb) ([] ++ po) && grnB b) w)
                (selI (iceB cx cy sd w h ([] ++ pb) ([] ++ po) && grnB b) h)
                (selL (iceB cx cy sd w h ([] ++ pb) ([] ++ po) && grnB b) ([] ++ pb))
                (selL (iceB cx cy sd w h ([] ++ pb) ([] ++ po) && grnB b)
                  (chgL (fun (x : Nat) => true) (fun (i : Int) => wornV i b) ([] ++ po)))
                (selI (iceB cx cy sd w h pb po && grnB b) cx) (selI (iceB cx cy sd w h pb po && grnB b) cy)
                (selI (iceB cx cy sd w h pb po && grnB b) sd) (selI (iceB cx cy sd w h pb po && grnB b) w)
                (selI (iceB cx cy sd w h pb po && grnB b) h) (selL (iceB cx cy sd w h pb po && grnB b) pb)
                (selL (iceB cx cy sd w h pb po && grnB b)
                  (chgL (fun (x : Nat) => true) (fun (i : Int) => wornV i b) po)) then
            bif er2 (iceB cx cy sd w h ([] ++ pb) ([] ++ po) && grnB b) == er2 (iceB cx cy sd w h pb po && grnB b) then
              bif
                  sameB (selI (bxvB cx cy sd w h ([] ++ pb) ([] ++ po) x y u v && grnB b) cx)
                    (selI (bxvB cx cy sd w h ([] ++ pb) ([] ++ po) x y u v && grnB b) cy)
                    (selI (bxvB cx cy sd w h ([] ++ pb) ([] ++ po) x y u v && grnB b) sd)
                    (selI (bxvB cx cy sd w h ([] ++ pb) ([] ++ po) x y u v && grnB b) w)
                    (selI (bxvB cx cy sd w h ([] ++ pb) ([] ++ po) x y u v && grnB b) h)
                    (selL (bxvB cx cy sd w h ([] ++ pb) ([] ++ po) x y u v && grnB b)
                      (chgL (fun (i : Nat) => inBx cx cy sd w x y u v (↑i : Int) && true) (fun (i : Int) => capV i b)
                        ([] ++ pb)))
                    (selL (bxvB cx cy sd w h ([] ++ pb) ([] ++ po) x y u v && grnB b)
                      (chgL (fun (i : Nat) => inBx cx cy sd w x y u v (↑i : Int) && true) (fun (x : Int) => 0)
                        ([] ++ po)))
                    (selI (bxvB cx cy sd w h pb po x y u v && grnB b) cx)
                    (selI (bxvB cx cy sd w h pb po x y u v && grnB b) cy)
                    (selI (bxvB cx cy sd w h pb po x y u v && grnB b) sd)
                    (selI (bxvB cx cy sd w h pb po x y u v && grnB b) w)
                    (selI (bxvB cx cy sd w h pb po x y u v && grnB b) h)
                    (selL (bxvB cx cy sd w h pb po x y u v && grnB b)
                      (chgL (fun (i : Nat) => inBx cx cy sd w x y u v (↑i : Int) && true) (fun (i : Int) => capV i b) pb))
                    (selL (bxvB cx cy sd w h pb po x y u v && grnB b)
                      (chgL (fun (i : Nat) => inBx cx cy sd w x y u v (↑i : Int) && true) (fun (x : Int) => 0) po)) then
                bif
                    er2 (bxvB cx cy sd w h ([] ++ pb) ([] ++ po) x y u v && grnB b) ==
                      er2 (bxvB cx cy sd w h pb po x y u v && grnB b) then
                  bif
                      sameB
                        (selI
                          (bxvB cx cy sd w h ([] ++ pb) ([] ++ po) x y u v &&
                            (grnB b && (decide (0 ≤ tn) && decide (tn ≤ 1))))
                          cx)
                        (selI
                          (bxvB cx cy sd w h ([] ++ pb) ([] ++ po) x y u v &&
                            (grnB b && (decide (0 ≤ tn) && decide (tn ≤ 1))))
                          cy)
                        (selI
                          (bxvB cx cy sd w h ([] ++ pb) ([] ++ po) x y u v &&
                            (grnB b && (decide (0 ≤ tn) && decide (tn ≤ 1))))
                          sd)
                        (selI
                          (bxvB cx cy sd w h ([] ++ pb) ([] ++ po) x y u v &&
                            (grnB b && (decide (0 ≤ tn) && decide (tn ≤ 1))))
                          w)
                        (selI
                          (bxvB cx cy sd w h ([] ++ pb) ([] ++ po) x y u v &&
                            (grnB b && (decide (0 ≤ tn) && decide (tn ≤ 1))))
                          h)
                        (selL
                          (bxvB cx cy sd w h ([] ++ pb) ([] ++ po) x y u v &&
                            (grnB b && (decide (0 ≤ tn) && decide (tn ≤ 1))))
                          (chgL (fun (i : Nat) => inBx cx cy sd w x y u v (↑i : Int) && sprB w tn (↑i : Int))
                            (fun (i : Int) => moreV i b) ([] ++ pb)))
                        (selL
                          (bxvB cx cy sd w h ([] ++ pb) ([] ++ po) x y u v &&
                            (grnB b && (decide (0 ≤ tn) && decide (tn ≤ 1))))
                          ([] ++ po))
                        (selI (bxvB cx cy sd w h pb po x y u v && (grnB b && (decide (0 ≤ tn) && decide (tn ≤ 1)))) cx)
                        (selI (bxvB cx cy sd w h pb po x y u v && (grnB b && (decide (0 ≤ tn) && decide (tn ≤ 1)))) cy)
                        (selI (bxvB cx cy sd w h pb po x y u v && (grnB b && (decide (0 ≤ tn) && decide (tn ≤ 1)))) sd)
                        (selI (bxvB cx cy sd w h pb po x y u v && (grnB b && (decide (0 ≤ tn) && decide (tn ≤ 1)))) w)
                        (selI (bxvB cx cy sd w h pb po x y u v && (grnB b && (decide (0 ≤ tn) && decide (tn ≤ 1)))) h)
                        (selL (bxvB cx cy sd w h pb po x y u v && (grnB b && (decide (0 ≤ tn) && decide (tn ≤ 1))))
                          (chgL (fun (i : Nat) => inBx cx cy sd w x y u v (↑i : Int) && sprB w tn (↑i : Int))
                            (fun (i : Int) => moreV i b) pb))
                        (selL (bxvB cx cy sd w h pb po x y u v && (grnB b && (decide (0 ≤ tn) && decide (tn ≤ 1))))
                          po) then
                    bif
                        er2
                            (bxvB cx cy sd w h ([] ++ pb) ([] ++ po) x y u v &&
                              (grnB b && (decide (0 ≤ tn) && decide (tn ≤ 1)))) ==
                          er2 (bxvB cx cy sd w h pb po x y u v && (grnB b && (decide (0 ≤ tn) && decide (tn ≤ 1)))) then
                      bif
                          selI (bxvB cx cy sd w h ([] ++ pb) ([] ++ po) x y u v)
                              (meaS (fun (i : Nat) => inBx cx cy sd w x y u v (↑i : Int)) ([] ++ pb) (cels w h)) ==
                            selI (bxvB cx cy sd w h pb po x y u v)
                              (meaS (fun (i : Nat) => inBx cx cy sd w x y u v (↑i : Int)) pb (cels w h)) then
                        bif
                            selI (bxvB cx cy sd w h ([] ++ pb) ([] ++ po) x y u v)
                                (meaN (fun (i : Nat) => inBx cx cy sd w x y u v (↑i : Int)) (cels w h)) ==
                              selI (bxvB cx cy sd w h pb po x y u v)
                                (meaN (fun (i : Nat) => inBx cx cy sd w x y u v (↑i : Int)) (cels w h)) then
                          bif
                              er2 (bxvB cx cy sd w h ([] ++ pb) ([] ++ po) x y u v) ==
                                er2 (bxvB cx cy sd w h pb po x y u v) then
                            bif sameB cx cy sd w h ([] ++ pb) ([] ++ po) cx cy sd w h pb po then
                              k (AOut.ret (AVal.bool true))
                            else k (AOut.ret (AVal.bool false))
                          else k (AOut.ret (AVal.bool false))
                        else k (AOut.ret (AVal.bool false))
                      else k (AOut.ret (AVal.bool false))
                    else k (AOut.ret (AVal.bool false))
                  else k (AOut.ret (AVal.bool false))
                else k (AOut.ret (AVal.bool false))
              else k (AOut.ret (AVal.bool false))
            else k (AOut.ret (AVal.bool false))
          else k (AOut.ret (AVal.bool false))
        else none
      else none := by kernel_rfl
--END
theorem sam_self (cx cy sd w h : Int) (pb po : List Int) : sameB cx cy sd w h pb po cx cy sd w h pb po = true := by simp [sameB]
theorem imaker_true (cx cy sd w h : Int) (pb po : List Int) (x y u v b tn : Int) : evFn real tab ((twV fsIm spL).env real tab 8 8) 8 Tryz.f6 AOut [.agg [.int .i64 cx, .int .i64 cy, .int .i64 sd, .int .i64 w, .int .i64 h, .ro (.int .i64) pb, .ro (.int .i64) po], .agg [.int .i64 x, .int .i64 y], .agg [.int .i64 u, .int .i64 v], .int .i64 b, .int .i64 tn] some = some (b1 true) := by
  refine (imaker_text 8 0 AOut cx cy sd w h pb po x y u v b tn some).trans ?_
  by_cases h1 : (pb.length : Int) > 1000
  · rw [decide_eq_true h1]; rfl
  by_cases h2 : (po.length : Int) > 1000
  · rw [decide_eq_false h1, decide_eq_true h2]; rfl
  rw [decide_eq_false h1, decide_eq_false h2, if_pos (by simp [room]; omega), if_pos (by simp [room]; omega)]
  simp only [List.nil_append, sam_self, BEq.rfl, cond_true, cond_false]
  rfl
def imakerF : List AVal → Option AOut
  | [.agg [.int .i64 cx, .int .i64 cy, .int .i64 sd, .int .i64 w, .int .i64 h, .ro (.int .i64) pb, .ro (.int .i64) po], .agg [.int .i64 x, .int .i64 y], .agg [.int .i64 u, .int .i64 v], .int .i64 b, .int .i64 tn] => some (b1 true)
  | _ => none
theorem imaker_ok : FspOk Tryz.prog 6 (toFsp imakerF) := tower_V fsIm_ok spL_ok ⟨Tryz.func6, fun _ _ => by kernel_rfl⟩ (toFsp_nat _) fun args out hSm hq => by
  replace hq := toFsp_some hq
  unfold imakerF at hq
  split at hq
  · rename_i cx cy sd w h pb po x y u v b tn
    cases hq
    exact ⟨8, 8, imaker_true cx cy sd w h pb po x y u v b tn⟩
  · cases hq
end Go.Proofs.YtbcjhjidhhecaaaGreat

/- The reference: which way something turns (layer 1); cells that a way touches (layer 3). -/
namespace Go.Proofs.YtbcjhjidhhecaaaGreat
open Go.RowKit

--AT fnR1 spL twY
--TEXT rturn | twY fnR1 spL | 8 | besom/besomref01.Turn | (x y u v : Int) | $S{x y}, $S{u v}
--KEY 2131e37420
set_option maxRecDepth 100000 in
theorem rturn_text (N n0 : Nat) (α : Type) (x y u v : Int) (k : AOut → Option α) : evFn real tab ((twY fnR1 spL).env real tab N (n0 + 8)) N Tryz.f138 α [.agg [.int .i64 x, .int .i64 y], .agg [.int .i64 u, .int .i64 v]] k =
  bif okB x then
    bif okB u then
      bif !okB y then k (AOut.ret (AVal.tup [AVal.int IntKind.i64 0, AVal.int IntKind.i64 2]))
      else
        bif !okB v then k (AOut.ret (AVal.tup [AVal.int IntKind.i64 0, AVal.int IntKind.i64 2]))
        else
          bif i7 x && i7 v then
            bif i7 (IntKind.i64.wrap (0 - y)) && i7 u then
              bif isD (dg (ab x * ab v)) && isD (dg (ab (IntKind.i64.wrap (0 - y)) * ab u)) then
                bif
                    (↑(dg
                              (sumV (xorB (ngB x) (ngB v)) (xorB (ngB (IntKind.i64.wrap (0 - y))) (ngB u))
                                (vl (dg (ab x * ab v))) (vl (dg (ab (IntKind.i64.wrap (0 - y)) * ab u))))).length :
                        Int) ==
                      0 then
                  k (AOut.ret (AVal.tup [AVal.int IntKind.i64 0, AVal.int IntKind.i64 0]))
                else
                  bif
                      sumB (xorB (ngB x) (ngB v)) (xorB (ngB (IntKind.i64.wrap (0 - y))) (ngB u)) (vl (dg (ab x * ab v)))
                        (vl (dg (ab (IntKind.i64.wrap (0 - y)) * ab u))) then
                    k (AOut.ret (AVal.tup [AVal.int IntKind.i64 (-1), AVal.int IntKind.i64 0]))
                  else k (AOut.ret (AVal.tup [AVal.int IntKind.i64 1, AVal.int IntKind.i64 0]))
              else none
            else none
          else none
    else
      bif !okB y then k (AOut.ret (AVal.tup [AVal.int IntKind.i64 0, AVal.int IntKind.i64 2]))
      else k (AOut.ret (AVal.tup [AVal.int IntKind.i64 0, AVal.int IntKind.i64 2]))
  else
    bif okB u then k (AOut.ret (AVal.tup [AVal.int IntKind.i64 0, AVal.int IntKind.i64 2]))
    else k (AOut.ret (AVal.tup [AVal.int IntKind.i64 0, AVal.int IntKind.i64 2])) := by kernel_rfl
--END
--FIN rturn | besom/besomref01.Turn | (x y u v : Int) | $S{x y}, $S{u v} | i2 (trnV x y u v) (fourE x y u v)
theorem rturn_fin (x y u v : Int) (hs : ∀ qSm ∈ ([.agg [.int .i64 x, .int .i64 y], .agg [.int .i64 u, .int .i64 v]] : List AVal), Sm qSm) : ∃ N n, ∀ α (k : AOut → Option α), evFn real tab ((twY fnR1 spL).env real tab N n) N Tryz.f138 α [.agg [.int .i64 x, .int .i64 y], .agg [.int .i64 u, .int .i64 v]] k = k (i2 (trnV x y u v) (fourE x y u v)) := by
  refine ⟨8, 8, fun α k => (rturn_text 8 0 α x y u v k).trans ?_⟩
  unfold trnV fourE four
  cases hx : okB x
  · cases okB y <;> cases okB u <;> cases okB v <;> rfl
  cases hu : okB u
  · cases okB y <;> cases okB v <;> rfl
  cases hy : okB y
  · cases okB v <;> rfl
  cases hv : okB v
  · rfl
  have x7 := i7_ok hx; have u7 := i7_ok hu; have v7 := i7_ok hv
  rw [ok_iff] at hx hu hy hv
  have ny : IntKind.i64.wrap (0 - y) = -y := by rw [i64_in (0 - y) (by omega)]; omega
  have y7 : i7 (-y) = true := by rw [i7_iff]; omega
  have ax : 0 ≤ ab x ∧ ab x ≤ 70368744177664 := by unfold ab; split <;> omega
  have au : 0 ≤ ab u ∧ ab u ≤ 70368744177664 := by unfold ab; split <;> omega
  have ay : 0 ≤ ab (-y) ∧ ab (-y) ≤ 70368744177664 := by unfold ab; split <;> omega
  have av : 0 ≤ ab v ∧ ab v ≤ 70368744177664 := by unfold ab; split <;> omega
  have m1 := mul_in ax av
  have m2 := mul_in ay au
  obtain ⟨s1, s2, s3⟩ := sum_sg (m := xorB (ngB x) (ngB v)) (n := xorB (ngB (-y)) (ngB u)) m1.1 m2.1
  rw [sg_mulD, sg_mulD] at s1
  rw [ny, x7, u7, v7, y7, isD_dg (n := ab x * ab v) ⟨m1.1, by omega⟩, isD_dg (n := ab (-y) * ab u) ⟨m2.1, by omega⟩, vl_dg _ m1.1, vl_dg _ m2.1]
  simp only [Bool.and_self, cond_true, Bool.not_true, cond_false]
  have hD : x * v - y * u = x * v + -y * u := by rw [Int.neg_mul]; omega
  rw [hD, ← s1]
  generalize sumV (xorB (ngB x) (ngB v)) (xorB (ngB (-y)) (ngB u)) (ab x * ab v) (ab (-y) * ab u) = V at *
  generalize sumB (xorB (ngB x) (ngB v)) (xorB (ngB (-y)) (ngB u)) (ab x * ab v) (ab (-y) * ab u) = B at *
  by_cases hV : V = 0
  · subst hV
    cases B <;> rfl
  · have : ((dg V).length : Int) ≠ 0 := fun e => hV ((dg_nil s2).1 (List.length_eq_zero_iff.1 (by omega)))
    rw [show (((dg V).length : Int) == 0) = false by simpa using this]
    cases B
    · have : sgn3 (sg false V) = 1 := by
        show cmp3 V 0 = 1
        unfold cmp3; rw [if_neg (by omega), if_pos (by omega)]
      rw [this]; rfl
    · have : sgn3 (sg true V) = -1 := by
        show cmp3 (-V) 0 = -1
        unfold cmp3; rw [if_pos (by omega)]
      rw [this]; rfl
--CON rturn
noncomputable def rturnS : Fsp := fun _ args k => match args with
  | [.agg [.int .i64 x, .int .i64 y], .agg [.int .i64 u, .int .i64 v]] => k (i2 (trnV x y u v) (fourE x y u v))
  | _ => none
theorem rturnS_ok : FspOk Tryz.prog 138 rturnS := tower_Y fnR1_ok spL_ok ⟨Tryz.func138, fun _ _ => by kernel_rfl⟩ (by intro α args k; unfold rturnS; split <;> rfl) fun args out hSm hEq => by
  unfold rturnS at hEq
  split at hEq
  · rename_i x y u v
    obtain ⟨N, n, e⟩ := rturn_fin x y u v hSm
    exact ⟨N, n, (e AOut some).trans hEq⟩
  · cases hEq
--END
--FS fnR8 | fnR1 | rturn
noncomputable def fnR8 : FuncId → Option Fsp := fun g =>
  if g = 138 then some rturnS else
  fnR1 g
theorem fnR8_ok : FsOk fnR8 :=
  fs_cons rturnS_ok <|
  fnR1_ok
--END
--AT fnR8 spL twY
section
variable {α : Type}
def rtF (T : Nat → Int) (n m : Nat) (z : Int × Int × Int × Unit) : Option (LRes (Int × Int × Int × Unit) α) :=
  bif decide (z.2.2.1 < 4) then
    if 0 ≤ z.2.2.1 ∧ z.2.2.1 < (n : Int) then
      if 0 ≤ z.2.2.1 ∧ z.2.2.1 < (m : Int) then
        bif decide (T z.2.2.1.toNat > 0) then
          bif decide (T z.2.2.1.toNat < 0) then some (LRes.cont (IntKind.i64.wrap (z.1 + 1), IntKind.i64.wrap (z.2.1 + 1), IntKind.i64.wrap (z.2.2.1 + 1), ()))
          else some (LRes.cont (IntKind.i64.wrap (z.1 + 1), z.2.1, IntKind.i64.wrap (z.2.2.1 + 1), ()))
        else
          bif decide (T z.2.2.1.toNat < 0) then some (LRes.cont (z.1, IntKind.i64.wrap (z.2.1 + 1), IntKind.i64.wrap (z.2.2.1 + 1), ()))
          else some (LRes.cont (z.1, z.2.1, IntKind.i64.wrap (z.2.2.1 + 1), ()))
      else none
    else none
  else some (LRes.brk 0 (z.1, z.2.1, z.2.2.1, ()))
def rtT (N : Nat) (x y u v lx ly hx hy : Int) (k : AOut → Option α) : Option α :=
  bif decide (mx x u < lx) then k (b1 false) else bif decide (mn x u > hx) then k (b1 false) else bif decide (mx y v < ly) then k (b1 false) else bif decide (mn y v > hy) then k (b1 false)
  else afterL (iterL N (rtF (fun i => trnV (IntKind.i64.wrap (u - x)) (IntKind.i64.wrap (v - y)) (IntKind.i64.wrap (cX lx hx i - x)) (IntKind.i64.wrap (cY ly hy i - y))) ([lx, hx, lx, hx] : List Int).length ([ly, ly, hy, hy] : List Int).length) (0, 0, 0, ())) fun id z => if id = 0 then (bif decide (z.1 < 4) then k (b1 (decide (z.2.1 < 4))) else k (b1 false)) else none
end
set_option maxRecDepth 100000 in
theorem rtouches_text (N n0 : Nat) (α : Type) (cx cy sd w h : Int) (pb po : List Int) (x y u v c : Int) (k : AOut → Option α) : evFn real tab ((twY fnR8 spL).env real tab N (n0 + 8)) N Tryz.f112 α [.agg [.int .i64 cx, .int .i64 cy, .int .i64 sd, .int .i64 w, .int .i64 h, .ro (.int .i64) pb, .ro (.int .i64) po], .agg [.int .i64 x, .int .i64 y], .agg [.int .i64 u, .int .i64 v], .int .i64 c] k =
    if w = 0 then none else if w = 0 then none else rtT N x y u v (lwX cx sd w c) (lwY cy sd w c) (hgX cx sd w c) (hgY cy sd w c) k := by kernel_rfl
theorem rt_loop {α : Type} (T : Nat → Int) (hT : ∀ i : Nat, i < 4 → T i = -1 ∨ T i = 0 ∨ T i = 1) (K : Nat → Int × Int × Int × Unit → Option α) {N : Nat} (hN : 4 < N) :
    afterL (iterL N (rtF T 4 4) (0, 0, 0, ())) K = K 0 (cnT T 1 4, cnT T (-1) 4, 4, ()) := by
  refine count_loop (f := rtF T 4 4) (fun i : Nat => (cnT T 1 i, cnT T (-1) i, (i : Int), ())) 4 (fun i hi => ?_) ?_ hN
  · have a := cnT_in T 1 i
    have b := cnT_in T (-1) i
    unfold rtF
    simp only
    rw [decide_eq_true (show (i : Int) < 4 by omega), cond_true, if_pos ⟨by omega, by omega⟩, if_pos ⟨by omega, by omega⟩, Int.toNat_natCast, i64_in ((i : Int) + 1) (by omega), i64_in (cnT T 1 i + 1) (by omega), i64_in (cnT T (-1) i + 1) (by omega)]
    simp only [cnT]
    rcases hT i hi with h | h | h <;> rw [h] <;> simp
  · rfl
--FIN rtouches | besom/besomref03.Touches | $ICB (x y u v c : Int) | $ICE, $S{x y}, $S{u v}, $I{c} | b1 (toB cx cy sd w x y u v c) | iceB $ICV && (plcB x y && plcB u v) && (decide (0 ≤ c) && decide (c < w * h))
theorem rtouches_fin (cx cy sd w h : Int) (pb po : List Int) (x y u v c : Int) (hs : ∀ qSm ∈ ([.agg [.int .i64 cx, .int .i64 cy, .int .i64 sd, .int .i64 w, .int .i64 h, .ro (.int .i64) pb, .ro (.int .i64) po], .agg [.int .i64 x, .int .i64 y], .agg [.int .i64 u, .int .i64 v], .int .i64 c] : List AVal), Sm qSm) (hCo : (iceB cx cy sd w h pb po && (plcB x y && plcB u v) && (decide (0 ≤ c) && decide (c < w * h))) = true) : ∃ N n, ∀ α (k : AOut → Option α), evFn real tab ((twY fnR8 spL).env real tab N n) N Tryz.f112 α [.agg [.int .i64 cx, .int .i64 cy, .int .i64 sd, .int .i64 w, .int .i64 h, .ro (.int .i64) pb, .ro (.int .i64) po], .agg [.int .i64 x, .int .i64 y], .agg [.int .i64 u, .int .i64 v], .int .i64 c] k = k (b1 (toB cx cy sd w x y u v c)) := by
  simp only [Bool.and_eq_true, decide_eq_true_eq, plc_iff] at hCo
  obtain ⟨⟨hI, hp, hq⟩, c0, c1⟩ := hCo
  have g := ice_is _ _ _ _ _ _ _ hI
  have gc := g.fc; have gs := g.fs
  refine ⟨8, 8, fun α k => (rtouches_text 8 0 α cx cy sd w h pb po x y u v c k).trans ?_⟩
  obtain ⟨e1, e2, e3, e4⟩ := lw_eq g.fc g.fs g.fw g.fh c0 c1
  obtain ⟨_, _, b1', b2'⟩ := cell_at g.fc g.fs g.fw g.fh c0 c1
  have hw := g.fw
  rw [if_neg (by omega), if_neg (by omega), e1, e2, e3, e4]
  unfold toB
  have l1 : -1677721600000 ≤ cx + c % w * sd ∧ cx + c % w * sd ≤ 1677721600000 := by omega
  have l2 : -1677721600000 ≤ cy + c / w * sd ∧ cy + c / w * sd ≤ 1677721600000 := by omega
  clear e1 e2 e3 e4 b1' b2'
  generalize cx + c % w * sd = lx at *
  generalize cy + c / w * sd = ly at *
  have hT : ∀ i : Nat, i < 4 → trnV (IntKind.i64.wrap (u - x)) (IntKind.i64.wrap (v - y)) (IntKind.i64.wrap (cX lx (lx + sd) i - x)) (IntKind.i64.wrap (cY ly (ly + sd) i - y)) = sid x y u v lx ly (lx + sd) (ly + sd) i := fun i hi => by
    have q1 := (cXY_in (B := 1684275200000) (show -1684275200000 ≤ lx ∧ lx ≤ 1684275200000 by omega) (show -1684275200000 ≤ lx + sd ∧ lx + sd ≤ 1684275200000 by omega) hi).1
    have q2 := (cXY_in (B := 1684275200000) (show -1684275200000 ≤ ly ∧ ly ≤ 1684275200000 by omega) (show -1684275200000 ≤ ly + sd ∧ ly + sd ≤ 1684275200000 by omega) hi).2
    rw [i64_in (u - x) (by omega), i64_in (v - y) (by omega), i64_in (cX lx (lx + sd) i - x) (by omega), i64_in (cY ly (ly + sd) i - y) (by omega), trn_ok (B := 1690828800000) (by omega) (by omega) (by omega) (by omega) (by omega)]
    rfl
  unfold rtT
  show (bif decide (mx x u < lx) then k (b1 false) else bif decide (mn x u > lx + sd) then k (b1 false) else bif decide (mx y v < ly) then k (b1 false) else bif decide (mn y v > ly + sd) then k (b1 false) else afterL (iterL 8 (rtF _ 4 4) (0, 0, 0, ())) _) = _
  rw [rt_loop _ (fun i hi => by rw [hT i hi]; exact sgn3_in _) _ (by omega), cnT_congr (-1) 4 hT, cnT_congr 1 4 hT]
  unfold touB
  have f : ∀ a b : Int, decide (a < b) = !decide (b ≤ a) := fun a b => by
    by_cases h : b ≤ a
    · rw [decide_eq_true h, decide_eq_false (by omega)]; rfl
    · rw [decide_eq_false h, decide_eq_true (by omega)]; rfl
  rw [f (mx x u), gt_le, f (mx y v), gt_le]
  simp only [if_pos]
  cases decide (lx ≤ mx x u) <;> cases decide (mn x u ≤ lx + sd) <;> cases decide (ly ≤ mx y v) <;> cases decide (mn y v ≤ ly + sd) <;> cases decide (cnT (sid x y u v lx ly (lx + sd) (ly + sd)) (-1) 4 < 4) <;> cases decide (cnT (sid x y u v lx ly (lx + sd) (ly + sd)) 1 4 < 4) <;> rfl
--CON rtouches
noncomputable def rtouchesS : Fsp := fun _ args k => match args with
  | [.agg [.int .i64 cx, .int .i64 cy, .int .i64 sd, .int .i64 w, .int .i64 h, .ro (.int .i64) pb, .ro (.int .i64) po], .agg [.int .i64 x, .int .i64 y], .agg [.int .i64 u, .int .i64 v], .int .i64 c] => bif iceB cx cy sd w h pb po && (plcB x y && plcB u v) && (decide (0 ≤ c) && decide (c < w * h)) then (k (b1 (toB cx cy sd w x y u v c))) else none
  | _ => none
theorem rtouchesS_ok : FspOk Tryz.prog 112 rtouchesS := tower_Y fnR8_ok spL_ok ⟨Tryz.func112, fun _ _ => by kernel_rfl⟩ (by intro α args k; unfold rtouchesS; split <;> simp only [cond_bind, Option.bind_some, Option.bind_none]) fun args out hSm hEq => by
  unfold rtouchesS at hEq
  split at hEq
  · rename_i cx cy sd w h pb po x y u v c
    cases hc : iceB cx cy sd w h pb po && (plcB x y && plcB u v) && (decide (0 ≤ c) && decide (c < w * h))
    · rw [hc] at hEq; cases hEq
    · rw [hc] at hEq
      obtain ⟨N, n, e⟩ := rtouches_fin cx cy sd w h pb po x y u v c hSm hc
      exact ⟨N, n, (e AOut some).trans hEq⟩
  · cases hEq
--END
--FS fnR9 | fnR8 | rtouches
noncomputable def fnR9 : FuncId → Option Fsp := fun g =>
  if g = 112 then some rtouchesS else
  fnR8 g
theorem fnR9_ok : FsOk fnR9 :=
  fs_cons rtouchesS_ok <|
  fnR8_ok
--END
end Go.Proofs.YtbcjhjidhhecaaaGreat

/- Ways and cells in plain numbers: a place of a way that is in a cell; the way back. -/
namespace Go.Proofs.YtbcjhjidhhecaaaGreat
open Go.RowKit

theorem cnT_full {T : Nat → Int} {v : Int} : ∀ (n : Nat), cnT T v n = n → ∀ i, i < n → T i = v
  | 0, _, i, hi => by omega
  | n + 1, h, i, hi => by
    have := cnT_in T v n
    simp only [cnT] at h
    by_cases hn : T n = v
    · rw [if_pos hn] at h
      rcases Nat.lt_or_ge i n with h' | h'
      · exact cnT_full n (by omega) i h'
      · have : i = n := by omega
        subst this; exact hn
    · rw [if_neg hn] at h; omega
theorem cnT_lt {T : Nat → Int} {v : Int} {i : Nat} (hi : i < 4) (h : T i ≠ v) : cnT T v 4 < 4 := by
  have := cnT_in T v 4
  by_cases h4 : cnT T v 4 = 4
  · exact absurd (cnT_full 4 h4 i hi) h
  · omega
theorem sgn3_neg {a : Int} : sgn3 a = -1 ↔ a < 0 := by
  unfold sgn3 cmp3
  split
  · simp; omega
  · split <;> simp <;> omega
theorem sgn3_pos {a : Int} : sgn3 a = 1 ↔ 0 < a := by
  unfold sgn3 cmp3
  split
  · simp; omega
  · split <;> simp <;> omega
/-- A place of a way, in a cell: the way touches it. -/
theorem tou_of {x y u v lx ly hx hy s t : Int} (h0 : (u - x) * (t - y) - (v - y) * (s - x) = 0) (hs : mn x u ≤ s ∧ s ≤ mx x u) (ht : mn y v ≤ t ∧ t ≤ mx y v) (hX : lx ≤ s ∧ s ≤ hx) (hY : ly ≤ t ∧ t ≤ hy) : touB x y u v lx ly hx hy = true := by
  simp only [touB, Bool.and_eq_true, decide_eq_true_eq]
  refine ⟨⟨⟨by omega, by omega⟩, by omega, by omega⟩, ?_, ?_⟩
  · -- some corner is not to the right
    have key : ∃ i, i < 4 ∧ 0 ≤ (u - x) * (cY ly hy i - y) - (v - y) * (cX lx hx i - x) := by
      have yy : ∃ Y, (Y = ly ∨ Y = hy) ∧ (u - x) * (t - y) ≤ (u - x) * (Y - y) := by
        rcases Int.le_total 0 (u - x) with h | h
        · exact ⟨hy, .inr rfl, Int.mul_le_mul_of_nonneg_left (by omega) h⟩
        · exact ⟨ly, .inl rfl, Int.mul_le_mul_of_nonpos_left h (by omega)⟩
      have xx : ∃ X, (X = lx ∨ X = hx) ∧ (v - y) * (X - x) ≤ (v - y) * (s - x) := by
        rcases Int.le_total 0 (v - y) with h | h
        · exact ⟨lx, .inl rfl, Int.mul_le_mul_of_nonneg_left (by omega) h⟩
        · exact ⟨hx, .inr rfl, Int.mul_le_mul_of_nonpos_left h (by omega)⟩
      obtain ⟨Y, hY', e1⟩ := yy
      obtain ⟨X, hX', e2⟩ := xx
      rcases hY' with rfl | rfl <;> rcases hX' with rfl | rfl
      · exact ⟨0, by omega, by simp only [cX, cY, List.getD_cons_zero]; omega⟩
      · exact ⟨1, by omega, by simp only [cX, cY, List.getD_cons_zero, List.getD_cons_succ]; omega⟩
      · exact ⟨2, by omega, by simp only [cX, cY, List.getD_cons_zero, List.getD_cons_succ]; omega⟩
      · exact ⟨3, by omega, by simp only [cX, cY, List.getD_cons_zero, List.getD_cons_succ]; omega⟩
    obtain ⟨i, hi, hp⟩ := key
    exact cnT_lt hi fun e => by have := sgn3_neg.1 e; omega
  · have key : ∃ i, i < 4 ∧ (u - x) * (cY ly hy i - y) - (v - y) * (cX lx hx i - x) ≤ 0 := by
      have yy : ∃ Y, (Y = ly ∨ Y = hy) ∧ (u - x) * (Y - y) ≤ (u - x) * (t - y) := by
        rcases Int.le_total 0 (u - x) with h | h
        · exact ⟨ly, .inl rfl, Int.mul_le_mul_of_nonneg_left (by omega) h⟩
        · exact ⟨hy, .inr rfl, Int.mul_le_mul_of_nonpos_left h (by omega)⟩
      have xx : ∃ X, (X = lx ∨ X = hx) ∧ (v - y) * (s - x) ≤ (v - y) * (X - x) := by
        rcases Int.le_total 0 (v - y) with h | h
        · exact ⟨hx, .inr rfl, Int.mul_le_mul_of_nonneg_left (by omega) h⟩
        · exact ⟨lx, .inl rfl, Int.mul_le_mul_of_nonpos_left h (by omega)⟩
      obtain ⟨Y, hY', e1⟩ := yy
      obtain ⟨X, hX', e2⟩ := xx
      rcases hY' with rfl | rfl <;> rcases hX' with rfl | rfl
      · exact ⟨0, by omega, by simp only [cX, cY, List.getD_cons_zero]; omega⟩
      · exact ⟨1, by omega, by simp only [cX, cY, List.getD_cons_zero, List.getD_cons_succ]; omega⟩
      · exact ⟨2, by omega, by simp only [cX, cY, List.getD_cons_zero, List.getD_cons_succ]; omega⟩
      · exact ⟨3, by omega, by simp only [cX, cY, List.getD_cons_zero, List.getD_cons_succ]; omega⟩
    obtain ⟨i, hi, hp⟩ := key
    exact cnT_lt hi fun e => by have := sgn3_pos.1 e; omega
theorem mx_comm (a b : Int) : mx a b = mx b a := by unfold mx; split <;> split <;> omega
theorem mn_comm (a b : Int) : mn a b = mn b a := by unfold mn; split <;> split <;> omega
theorem cnT_flip {S T : Nat → Int} (v : Int) : ∀ n, (∀ i, i < n → (S i = v ↔ T i = -v)) → cnT S v n = cnT T (-v) n
  | 0, _ => rfl
  | n + 1, h => by
    simp only [cnT, cnT_flip v n fun i hi => h i (by omega)]
    have := h n (by omega)
    by_cases hs : S n = v
    · rw [if_pos hs, if_pos (this.1 hs)]
    · rw [if_neg hs, if_neg fun e => hs (this.2 e)]
theorem cross_back (x y u v X Y : Int) : (x - u) * (Y - v) - (y - v) * (X - u) = -((u - x) * (Y - y) - (v - y) * (X - x)) := by
  have e1 : (x - u) * (Y - v) = x * Y - x * v - u * Y + u * v := by rw [Int.sub_mul, Int.mul_sub, Int.mul_sub]; omega
  have e2 : (y - v) * (X - u) = y * X - y * u - v * X + v * u := by rw [Int.sub_mul, Int.mul_sub, Int.mul_sub]; omega
  have e3 : (u - x) * (Y - y) = u * Y - u * y - x * Y + x * y := by rw [Int.sub_mul, Int.mul_sub, Int.mul_sub]; omega
  have e4 : (v - y) * (X - x) = v * X - v * x - y * X + y * x := by rw [Int.sub_mul, Int.mul_sub, Int.mul_sub]; omega
  rw [e1, e2, e3, e4, Int.mul_comm v u, Int.mul_comm y u, Int.mul_comm v x, Int.mul_comm y x]
  omega
theorem tou_back (x y u v lx ly hx hy : Int) : touB u v x y lx ly hx hy = touB x y u v lx ly hx hy := by
  have flip : ∀ w : Int, w = -1 ∨ w = 1 → cnT (sid u v x y lx ly hx hy) w 4 = cnT (sid x y u v lx ly hx hy) (-w) 4 := fun w hw => cnT_flip w 4 fun i _ => by
    unfold sid
    rw [cross_back]
    generalize (u - x) * (cY ly hy i - y) - (v - y) * (cX lx hx i - x) = q
    rcases hw with rfl | rfl
    · rw [sgn3_neg, show -(-1 : Int) = 1 from rfl, sgn3_pos]; omega
    · rw [sgn3_pos, sgn3_neg]; omega
  unfold touB
  rw [flip (-1) (.inl rfl), flip 1 (.inr rfl), mx_comm u x, mn_comm u x, mx_comm v y, mn_comm v y, show -(-1 : Int) = 1 from rfl]
  rw [Bool.and_comm (decide (cnT (sid x y u v lx ly hx hy) 1 4 < 4))]
/-- The cell of a place. -/
theorem cel_parts {cx cy sd w h x y : Int} (hsd : 1 ≤ sd) (hw : 1 ≤ w) (hi : inCel cx cy sd w h x y = true) : celC cx cy sd w x y % w = (x - cx) / sd ∧ celC cx cy sd w x y / w = (y - cy) / sd := by
  obtain ⟨_, _, ⟨a0, a1⟩, b0, b1⟩ := cel_in hsd hw hi
  unfold celC
  generalize (x - cx) / sd = p at *
  generalize (y - cy) / sd = q at *
  constructor
  · rw [Int.add_comm, Int.add_mul_emod_self_right, Int.emod_eq_of_lt a0 a1]
  · rw [Int.add_comm, Int.add_mul_ediv_right _ _ (by omega), Int.ediv_eq_zero_of_lt a0 a1]; omega
theorem to_of_place {cx cy sd w h x y u v s t : Int} (hsd : 1 ≤ sd) (hw : 1 ≤ w) (h0 : (u - x) * (t - y) - (v - y) * (s - x) = 0) (hs : mn x u ≤ s ∧ s ≤ mx x u) (ht : mn y v ≤ t ∧ t ≤ mx y v) (hi : inCel cx cy sd w h s t = true) : toB cx cy sd w x y u v (celC cx cy sd w s t) = true := by
  obtain ⟨e1, e2⟩ := cel_parts hsd hw hi
  unfold toB
  rw [e1, e2]
  have f1 := Int.emod_add_mul_ediv (s - cx) sd
  have f2 := Int.emod_nonneg (s - cx) (show sd ≠ 0 by omega)
  have f3 := Int.emod_lt_of_pos (s - cx) (show 0 < sd by omega)
  have g1 := Int.emod_add_mul_ediv (t - cy) sd
  have g2 := Int.emod_nonneg (t - cy) (show sd ≠ 0 by omega)
  have g3 := Int.emod_lt_of_pos (t - cy) (show 0 < sd by omega)
  rw [Int.mul_comm] at f1 g1
  exact tou_of h0 hs ht ⟨by omega, by omega⟩ ⟨by omega, by omega⟩

/-! Lists of numbers for which something holds. -/
theorem whL_at (hit : Nat → Bool) (n : Nat) {i : Nat} (hi : i < (whL hit n).length) : ∃ m : Nat, (whL hit n).getD i 0 = m ∧ m < n ∧ hit m = true := by
  rw [List.getD_eq_getElem?_getD, List.getElem?_eq_getElem hi]
  have hm := List.getElem_mem hi
  obtain ⟨m, hm', e⟩ := List.mem_map.1 hm
  obtain ⟨h1, h2⟩ := List.mem_filter.1 hm'
  exact ⟨m, by rw [Option.getD_some]; exact e.symm, List.mem_range.1 h1, h2⟩
theorem whL_has {hit : Nat → Bool} {n m : Nat} (hm : m < n) (h : hit m = true) : ∃ i, i < (whL hit n).length ∧ (whL hit n).getD i 0 = (m : Int) := by
  have : (m : Int) ∈ whL hit n := List.mem_map.2 ⟨m, List.mem_filter.2 ⟨List.mem_range.2 hm, h⟩, rfl⟩
  obtain ⟨i, hi, e⟩ := List.mem_iff_getElem.1 this
  exact ⟨i, hi, by rw [List.getD_eq_getElem?_getD, List.getElem?_eq_getElem hi, Option.getD_some, e]⟩
theorem whL_rise (hit : Nat → Bool) (n : Nat) : (whL hit n).Pairwise (· < ·) := by
  unfold whL
  rw [List.pairwise_map]
  refine (List.Pairwise.filter _ List.pairwise_lt_range).imp ?_
  intro a b h; omega
theorem whL_next (hit : Nat → Bool) (n : Nat) {i : Nat} (h0 : 0 < i) (hi : i < (whL hit n).length) : (whL hit n).getD (i - 1) 0 < (whL hit n).getD i 0 := by
  have := List.pairwise_iff_getElem.1 (whL_rise hit n) (i - 1) i (by omega) hi (by omega)
  rw [List.getD_eq_getElem?_getD, List.getD_eq_getElem?_getD, List.getElem?_eq_getElem hi, List.getElem?_eq_getElem (by omega)]
  exact this
end Go.Proofs.YtbcjhjidhhecaaaGreat

/- The reference: touched cells, ice after stones and brooms. -/
namespace Go.Proofs.YtbcjhjidhhecaaaGreat
open Go.RowKit

--AT fnR9 spL twY
section
variable {α : Type}
def rtdF (dom hit : Int → Bool) (wh : Int) (z : List Int × Int × Unit) : Option (LRes (List Int × Int × Unit) α) :=
  bif decide (z.2.1 < wh) then
    bif dom z.2.1 then
      bif hit z.2.1 then if (z.1.length + [z.2.1].length) * 8 ≤ room then some (LRes.cont (z.1 ++ [z.2.1], IntKind.i64.wrap (z.2.1 + 1), ())) else none
      else some (LRes.cont (z.1, IntKind.i64.wrap (z.2.1 + 1), ()))
    else none
  else some (LRes.brk 0 (z.1, z.2.1, ()))
def rpF (L : List Int) (f : Int → Int) (z : St2) : Option (LRes St2 α) :=
  bif decide (z.2.2.1 < (L.length : Int)) then
    in2 z.2.2.1 L (in2 z.2.2.1 L (in2 (L.getD z.2.2.1.toNat 0) z.1 (in2 (L.getD z.2.2.1.toNat 0) z.1
      (some (LRes.cont (z.1.set (L.getD z.2.2.1.toNat 0).toNat (f (z.1.getD (L.getD z.2.2.1.toNat 0).toNat 0)), z.2.1, IntKind.i64.wrap (z.2.2.1 + 1), ()))))))
  else some (LRes.brk 0 (z.1, z.2.1, z.2.2.1, ()))
def rsF (L : List Int) (f : Int → Int) (z : St2) : Option (LRes St2 α) :=
  bif decide (z.2.2.1 < (L.length : Int)) then
    in2 z.2.2.1 L (in2 z.2.2.1 L (in2 (L.getD z.2.2.1.toNat 0) z.2.1 (in2 (L.getD z.2.2.1.toNat 0) z.2.1
      (some (LRes.cont (z.1, z.2.1.set (L.getD z.2.2.1.toNat 0).toNat (f (z.2.1.getD (L.getD z.2.2.1.toNat 0).toNat 0)), IntKind.i64.wrap (z.2.2.1 + 1), ()))))))
  else some (LRes.brk 0 (z.1, z.2.1, z.2.2.1, ()))
end
set_option maxRecDepth 100000 in
theorem rtouched_text (N n0 : Nat) (α : Type) (cx cy sd w h : Int) (pb po : List Int) (x y u v : Int) (k : AOut → Option α) : evFn real tab ((twY fnR9 spL).env real tab N (n0 + 8)) N Tryz.f22 α [.agg [.int .i64 cx, .int .i64 cy, .int .i64 sd, .int .i64 w, .int .i64 h, .ro (.int .i64) pb, .ro (.int .i64) po], .agg [.int .i64 x, .int .i64 y], .agg [.int .i64 u, .int .i64 v]] k =
    bif iceB cx cy sd w h pb po then bif !plcB x y then k (.ret (.tup [.ro (.int .i64) ([] : List Int), iN 2])) else bif !plcB u v then k (.ret (.tup [.ro (.int .i64) ([] : List Int), iN 2]))
    else afterL (iterL N (rtdF (fun c => iceB cx cy sd w h pb po && (plcB x y && plcB u v) && (decide (0 ≤ c) && decide (c < w * h))) (toB cx cy sd w x y u v) (IntKind.i64.wrap (w * h))) ([], 0, ())) fun id z => if id = 0 then k (.ret (.tup [.ro (.int .i64) z.1, iN 0])) else none
    else k (.ret (.tup [.ro (.int .i64) ([] : List Int), iN 2])) := by kernel_rfl
set_option maxRecDepth 100000 in
theorem rpass_text (N n0 : Nat) (α : Type) (cx cy sd w h : Int) (pb po : List Int) (fl ke sw be we : Int) (x y u v : Int) (k : AOut → Option α) : evFn real tab ((twY fnR9 spL).env real tab N (n0 + 8)) N Tryz.f24 α [.agg [.int .i64 cx, .int .i64 cy, .int .i64 sd, .int .i64 w, .int .i64 h, .ro (.int .i64) pb, .ro (.int .i64) po], .agg [.int .i64 fl, .int .i64 ke, .int .i64 sw, .int .i64 be, .int .i64 we], .agg [.int .i64 x, .int .i64 y], .agg [.int .i64 u, .int .i64 v]] k =
    bif iceB cx cy sd w h pb po then bif !graB fl ke sw be we then k icN else bif !plcB x y then k icN else bif !plcB u v then k icN
    else cop2 pb po (afterL (iterL N (rtdF (fun c => iceB cx cy sd w h ((List.nil (α := Int)) ++ pb) ((List.nil (α := Int)) ++ po) && (plcB x y && plcB u v) && (decide (0 ≤ c) && decide (c < w * h))) (toB cx cy sd w x y u v) (IntKind.i64.wrap (w * h))) ([], 0, ())) fun id y => if id = 0 then
      afterL (iterL N (rpF y.1 fun n => wornV n we) ((List.nil (α := Int)) ++ pb, (List.nil (α := Int)) ++ po, 0, ())) fun id z => if id = 0 then k (icO cx cy sd w h z.1 z.2.1) else none
      else none)
    else k icN := by kernel_rfl
set_option maxRecDepth 100000 in
theorem rsweep_text (N n0 : Nat) (α : Type) (cx cy sd w h : Int) (pb po : List Int) (x y u v b : Int) (k : AOut → Option α) : evFn real tab ((twY fnR9 spL).env real tab N (n0 + 8)) N Tryz.f26 α [.agg [.int .i64 cx, .int .i64 cy, .int .i64 sd, .int .i64 w, .int .i64 h, .ro (.int .i64) pb, .ro (.int .i64) po], .agg [.int .i64 x, .int .i64 y], .agg [.int .i64 u, .int .i64 v], .int .i64 b] k =
    bif iceB cx cy sd w h pb po then bif !plcB x y then k icN else bif !plcB u v then k icN
    else bif decide (0 ≤ b) then bif !decide (b ≤ 1000) then k icN
    else cop2 pb po (afterL (iterL N (rtdF (fun c => iceB cx cy sd w h ((List.nil (α := Int)) ++ pb) ((List.nil (α := Int)) ++ po) && (plcB x y && plcB u v) && (decide (0 ≤ c) && decide (c < w * h))) (toB cx cy sd w x y u v) (IntKind.i64.wrap (w * h))) ([], 0, ())) fun id y => if id = 0 then
      afterL (iterL N (rsF y.1 fun n => moreV n b) ((List.nil (α := Int)) ++ pb, (List.nil (α := Int)) ++ po, 0, ())) fun id z => if id = 0 then k (icO cx cy sd w h z.1 z.2.1) else none
      else none)
    else k icN else k icN := by kernel_rfl
theorem rtd_loop {α : Type} (dom hit : Int → Bool) {wh : Int} {n : Nat} (hn : (n : Int) = wh) (hn2 : n ≤ 65536) (hd : ∀ i : Nat, i < n → dom i = true) (K : Nat → List Int × Int × Unit → Option α) {N : Nat} (hN : n < N) :
    afterL (iterL N (rtdF dom hit wh) ([], 0, ())) K = K 0 (whL (fun i => hit i) n, (n : Int), ()) := by
  refine count_loop (f := rtdF dom hit wh) (fun i : Nat => (whL (fun i => hit i) i, (i : Int), ())) n (fun i hi => ?_) ?_ hN
  · have hl := whL_len (fun i => hit i) i
    unfold rtdF
    simp only
    rw [decide_eq_true (show (i : Int) < wh by omega), hd i hi, i64_in ((i : Int) + 1) (by omega), whL_succ]
    simp only [cond_true]
    cases hit i
    · simp only [cond_false, List.append_nil]; rfl
    · rw [cond_true, if_pos (by simp [room]; omega)]; rfl
  · unfold rtdF
    simp only
    rw [decide_eq_false (by omega)]
    rfl
/-- What is done with the cells of a list, one by one. -/
def forL (f : Int → Int) (l : List Int) (t : List Int) : List Int := l.foldl (fun t c => updL f c.toNat t) t
theorem forL_len (f : Int → Int) : ∀ (l t : List Int), (forL f l t).length = t.length
  | [], t => rfl
  | c :: l, t => by
    show (forL f l (updL f c.toNat t)).length = t.length
    rw [forL_len f l]; unfold updL; rw [List.length_set]
theorem forL_take (f : Int → Int) {l : List Int} {i : Nat} (hi : i < l.length) (t : List Int) : forL f (l.take (i + 1)) t = updL f (l.getD i 0).toNat (forL f (l.take i) t) := by
  have : l.take (i + 1) = l.take i ++ [l.getD i 0] := by
    rw [List.getD_eq_getElem?_getD, List.getElem?_eq_getElem hi, Option.getD_some, List.take_succ_eq_append_getElem hi]
  unfold forL
  rw [this, List.foldl_append]
  rfl
theorem forL_wh (f : Int → Int) (hit : Nat → Bool) (t : List Int) : ∀ n, forL f (whL hit n) t = foldC hit (updL f) t n
  | 0 => rfl
  | n + 1 => by
    rw [whL_succ]
    unfold forL
    rw [List.foldl_append]
    have ih := forL_wh f hit t n
    unfold forL at ih
    rw [ih]
    simp only [foldC]
    cases hit n <;> rfl
theorem rp_loop {α : Type} (hit : Nat → Bool) (f : Int → Int) (pb po : List Int) {n : Nat} (hp : pb.length = n) (hn : n ≤ 65536) (K : Nat → St2 → Option α) {N : Nat} (hN : n < N) :
    afterL (iterL N (rpF (whL hit n) f) (pb, po, 0, ())) K = K 0 (chgL hit f pb, po, ((whL hit n).length : Int), ()) := by
  have hlen := whL_len hit n
  have key := count_loop (f := rpF (whL hit n) f) (K := K) (fun i : Nat => (forL f ((whL hit n).take i) pb, po, (i : Int), ())) (whL hit n).length (b := 0) (y := (forL f ((whL hit n).take (whL hit n).length) pb, po, ((whL hit n).length : Int), ())) (fun i hi => ?_) ?_ (N := N) (by omega)
  · rw [List.take_length, forL_wh, ← hp, fold_chg, hp] at key
    exact key
  · obtain ⟨m, hv, hm, _⟩ := whL_at hit n hi
    have hl := forL_len f ((whL hit n).take i) pb
    unfold rpF
    simp only
    rw [decide_eq_true (show (i : Int) < ((whL hit n).length : Int) by omega), cond_true, in2_pos ⟨by omega, by omega⟩, in2_pos ⟨by omega, by omega⟩, Int.toNat_natCast, forL_take f hi, hv, in2_pos ⟨by omega, by omega⟩, in2_pos ⟨by omega, by omega⟩, i64_in ((i : Int) + 1) (by omega)]
    rfl
  · unfold rpF
    simp only
    rw [decide_eq_false (by omega)]
    rfl
theorem rs_loop {α : Type} (hit : Nat → Bool) (f : Int → Int) (pb po : List Int) {n : Nat} (hp : po.length = n) (hn : n ≤ 65536) (K : Nat → St2 → Option α) {N : Nat} (hN : n < N) :
    afterL (iterL N (rsF (whL hit n) f) (pb, po, 0, ())) K = K 0 (pb, chgL hit f po, ((whL hit n).length : Int), ()) := by
  have hlen := whL_len hit n
  have key := count_loop (f := rsF (whL hit n) f) (K := K) (fun i : Nat => (pb, forL f ((whL hit n).take i) po, (i : Int), ())) (whL hit n).length (b := 0) (y := (pb, forL f ((whL hit n).take (whL hit n).length) po, ((whL hit n).length : Int), ())) (fun i hi => ?_) ?_ (N := N) (by omega)
  · rw [List.take_length, forL_wh, ← hp, fold_chg, hp] at key
    exact key
  · obtain ⟨m, hv, hm, _⟩ := whL_at hit n hi
    have hl := forL_len f ((whL hit n).take i) po
    unfold rsF
    simp only
    rw [decide_eq_true (show (i : Int) < ((whL hit n).length : Int) by omega), cond_true, in2_pos ⟨by omega, by omega⟩, in2_pos ⟨by omega, by omega⟩, Int.toNat_natCast, forL_take f hi, hv, in2_pos ⟨by omega, by omega⟩, in2_pos ⟨by omega, by omega⟩, i64_in ((i : Int) + 1) (by omega)]
    rfl
  · unfold rsF
    simp only
    rw [decide_eq_false (by omega)]
    rfl
--FIN rtouched | besom/besomref03.Touched | $ICB (x y u v : Int) | $ICE, $S{x y}, $S{u v} | .ret (.tup [.ro (.int .i64) (tcV $ICV x y u v), .int .i64 (er2 (twB $ICV x y u v))])
theorem rtouched_fin (cx cy sd w h : Int) (pb po : List Int) (x y u v : Int) (hs : ∀ qSm ∈ ([.agg [.int .i64 cx, .int .i64 cy, .int .i64 sd, .int .i64 w, .int .i64 h, .ro (.int .i64) pb, .ro (.int .i64) po], .agg [.int .i64 x, .int .i64 y], .agg [.int .i64 u, .int .i64 v]] : List AVal), Sm qSm) : ∃ N n, ∀ α (k : AOut → Option α), evFn real tab ((twY fnR9 spL).env real tab N n) N Tryz.f22 α [.agg [.int .i64 cx, .int .i64 cy, .int .i64 sd, .int .i64 w, .int .i64 h, .ro (.int .i64) pb, .ro (.int .i64) po], .agg [.int .i64 x, .int .i64 y], .agg [.int .i64 u, .int .i64 v]] k = k (.ret (.tup [.ro (.int .i64) (tcV cx cy sd w h pb po x y u v), .int .i64 (er2 (twB cx cy sd w h pb po x y u v))])) := by
  refine ⟨65537, 8, fun α k => (rtouched_text 65537 0 α cx cy sd w h pb po x y u v k).trans ?_⟩
  unfold tcV twB
  cases hI : iceB cx cy sd w h pb po
  · rfl
  cases hp : plcB x y
  · rfl
  cases hq : plcB u v
  · rfl
  have g := ice_is _ _ _ _ _ _ _ hI
  obtain ⟨c1, c2⟩ := cels_le g.fw g.fh
  simp only [Bool.not_true, Bool.and_self, cond_true, cond_false, Bool.true_and]
  rw [rtd_loop _ (toB cx cy sd w x y u v) (n := cels w h) (by rw [i64_in (w * h) (by omega)]; exact c2) c1 (fun i hi => by rw [decide_eq_true (show (0 : Int) ≤ i by omega), decide_eq_true (show (i : Int) < w * h by omega)]; rfl) _ (by omega), if_pos rfl]
  rfl
--CON rtouched
noncomputable def rtouchedS : Fsp := fun _ args k => match args with
  | [.agg [.int .i64 cx, .int .i64 cy, .int .i64 sd, .int .i64 w, .int .i64 h, .ro (.int .i64) pb, .ro (.int .i64) po], .agg [.int .i64 x, .int .i64 y], .agg [.int .i64 u, .int .i64 v]] => k (.ret (.tup [.ro (.int .i64) (tcV cx cy sd w h pb po x y u v), .int .i64 (er2 (twB cx cy sd w h pb po x y u v))]))
  | _ => none
theorem rtouchedS_ok : FspOk Tryz.prog 22 rtouchedS := tower_Y fnR9_ok spL_ok ⟨Tryz.func22, fun _ _ => by kernel_rfl⟩ (by intro α args k; unfold rtouchedS; split <;> rfl) fun args out hSm hEq => by
  unfold rtouchedS at hEq
  split at hEq
  · rename_i cx cy sd w h pb po x y u v
    obtain ⟨N, n, e⟩ := rtouched_fin cx cy sd w h pb po x y u v hSm
    exact ⟨N, n, (e AOut some).trans hEq⟩
  · cases hEq
--END
--FIN rpass | besom/besomref03.Pass | $ICB $GB (x y u v : Int) | $ICE, $GR, $S{x y}, $S{u v} | icO cx cy sd w h (chgL (fun i => toB cx cy sd w x y u v i) (fun i => wornV i we) pb) po ?? pasB $ICV $GV x y u v :: icN
theorem rpass_fin (cx cy sd w h : Int) (pb po : List Int) (fl ke sw be we : Int) (x y u v : Int) (hs : ∀ qSm ∈ ([.agg [.int .i64 cx, .int .i64 cy, .int .i64 sd, .int .i64 w, .int .i64 h, .ro (.int .i64) pb, .ro (.int .i64) po], .agg [.int .i64 fl, .int .i64 ke, .int .i64 sw, .int .i64 be, .int .i64 we], .agg [.int .i64 x, .int .i64 y], .agg [.int .i64 u, .int .i64 v]] : List AVal), Sm qSm) : ∃ N n, ∀ α (k : AOut → Option α), evFn real tab ((twY fnR9 spL).env real tab N n) N Tryz.f24 α [.agg [.int .i64 cx, .int .i64 cy, .int .i64 sd, .int .i64 w, .int .i64 h, .ro (.int .i64) pb, .ro (.int .i64) po], .agg [.int .i64 fl, .int .i64 ke, .int .i64 sw, .int .i64 be, .int .i64 we], .agg [.int .i64 x, .int .i64 y], .agg [.int .i64 u, .int .i64 v]] k = bif pasB cx cy sd w h pb po fl ke sw be we x y u v then k (icO cx cy sd w h (chgL (fun i => toB cx cy sd w x y u v i) (fun i => wornV i we) pb) po) else k (icN) := by
  refine ⟨65537, 8, fun α k => (rpass_text 65537 0 α cx cy sd w h pb po fl ke sw be we x y u v k).trans ?_⟩
  unfold pasB
  cases hI : iceB cx cy sd w h pb po
  · rfl
  cases hG : graB fl ke sw be we
  · rfl
  cases hp : plcB x y
  · rfl
  cases hq : plcB u v
  · rfl
  have g := ice_is _ _ _ _ _ _ _ hI
  have l1 := list_ok g.fw g.fh g.pl
  have l2 := list_ok g.fw g.fh g.ol
  obtain ⟨c1, c2⟩ := cels_le g.fw g.fh
  have hpl := g.pl
  simp only [Bool.not_true, Bool.and_self, cond_true, cond_false]
  rw [cop2_pos l1.2 l2.2, List.nil_append, List.nil_append, hI]
  rw [rtd_loop _ (toB cx cy sd w x y u v) (n := cels w h) (by rw [i64_in (w * h) (by omega)]; exact c2) c1 (fun i hi => by rw [decide_eq_true (show (0 : Int) ≤ i by omega), decide_eq_true (show (i : Int) < w * h by omega)]; rfl) _ (by omega), if_pos rfl]
  rw [rp_loop (fun i => toB cx cy sd w x y u v i) _ pb po (n := cels w h) (by omega) c1 _ (by omega), if_pos rfl]
--CON rpass
noncomputable def rpassS : Fsp := fun _ args k => match args with
  | [.agg [.int .i64 cx, .int .i64 cy, .int .i64 sd, .int .i64 w, .int .i64 h, .ro (.int .i64) pb, .ro (.int .i64) po], .agg [.int .i64 fl, .int .i64 ke, .int .i64 sw, .int .i64 be, .int .i64 we], .agg [.int .i64 x, .int .i64 y], .agg [.int .i64 u, .int .i64 v]] => bif pasB cx cy sd w h pb po fl ke sw be we x y u v then k (icO cx cy sd w h (chgL (fun i => toB cx cy sd w x y u v i) (fun i => wornV i we) pb) po) else k (icN)
  | _ => none
theorem rpassS_ok : FspOk Tryz.prog 24 rpassS := tower_Y fnR9_ok spL_ok ⟨Tryz.func24, fun _ _ => by kernel_rfl⟩ (by intro α args k; unfold rpassS; split <;> simp only [cond_bind, Option.bind_some, Option.bind_none]) fun args out hSm hEq => by
  unfold rpassS at hEq
  split at hEq
  · rename_i cx cy sd w h pb po fl ke sw be we x y u v
    obtain ⟨N, n, e⟩ := rpass_fin cx cy sd w h pb po fl ke sw be we x y u v hSm
    exact ⟨N, n, (e AOut some).trans hEq⟩
  · cases hEq
--END
--FIN rsweep | besom/besomref03.Sweep | $ICB (x y u v b : Int) | $ICE, $S{x y}, $S{u v}, $I{b} | icO cx cy sd w h pb (chgL (fun i => toB cx cy sd w x y u v i) (fun i => moreV i b) po) ?? twB $ICV x y u v && grnB b :: icN
theorem rsweep_fin (cx cy sd w h : Int) (pb po : List Int) (x y u v b : Int) (hs : ∀ qSm ∈ ([.agg [.int .i64 cx, .int .i64 cy, .int .i64 sd, .int .i64 w, .int .i64 h, .ro (.int .i64) pb, .ro (.int .i64) po], .agg [.int .i64 x, .int .i64 y], .agg [.int .i64 u, .int .i64 v], .int .i64 b] : List AVal), Sm qSm) : ∃ N n, ∀ α (k : AOut → Option α), evFn real tab ((twY fnR9 spL).env real tab N n) N Tryz.f26 α [.agg [.int .i64 cx, .int .i64 cy, .int .i64 sd, .int .i64 w, .int .i64 h, .ro (.int .i64) pb, .ro (.int .i64) po], .agg [.int .i64 x, .int .i64 y], .agg [.int .i64 u, .int .i64 v], .int .i64 b] k = bif twB cx cy sd w h pb po x y u v && grnB b then k (icO cx cy sd w h pb (chgL (fun i => toB cx cy sd w x y u v i) (fun i => moreV i b) po)) else k (icN) := by
  refine ⟨65537, 8, fun α k => (rsweep_text 65537 0 α cx cy sd w h pb po x y u v b k).trans ?_⟩
  unfold twB grnB
  cases hI : iceB cx cy sd w h pb po
  · rfl
  cases hp : plcB x y
  · rfl
  cases hq : plcB u v
  · rfl
  cases decide (0 ≤ b)
  · rfl
  cases decide (b ≤ 1000)
  · rfl
  have g := ice_is _ _ _ _ _ _ _ hI
  have l1 := list_ok g.fw g.fh g.pl
  have l2 := list_ok g.fw g.fh g.ol
  obtain ⟨c1, c2⟩ := cels_le g.fw g.fh
  have hol := g.ol
  simp only [Bool.not_true, Bool.and_self, cond_true, cond_false]
  rw [cop2_pos l1.2 l2.2, List.nil_append, List.nil_append, hI]
  rw [rtd_loop _ (toB cx cy sd w x y u v) (n := cels w h) (by rw [i64_in (w * h) (by omega)]; exact c2) c1 (fun i hi => by rw [decide_eq_true (show (0 : Int) ≤ i by omega), decide_eq_true (show (i : Int) < w * h by omega)]; rfl) _ (by omega), if_pos rfl]
  rw [rs_loop (fun i => toB cx cy sd w x y u v i) _ pb po (n := cels w h) (by omega) c1 _ (by omega), if_pos rfl]
--CON rsweep
noncomputable def rsweepS : Fsp := fun _ args k => match args with
  | [.agg [.int .i64 cx, .int .i64 cy, .int .i64 sd, .int .i64 w, .int .i64 h, .ro (.int .i64) pb, .ro (.int .i64) po], .agg [.int .i64 x, .int .i64 y], .agg [.int .i64 u, .int .i64 v], .int .i64 b] => bif twB cx cy sd w h pb po x y u v && grnB b then k (icO cx cy sd w h pb (chgL (fun i => toB cx cy sd w x y u v i) (fun i => moreV i b) po)) else k (icN)
  | _ => none
theorem rsweepS_ok : FspOk Tryz.prog 26 rsweepS := tower_Y fnR9_ok spL_ok ⟨Tryz.func26, fun _ _ => by kernel_rfl⟩ (by intro α args k; unfold rsweepS; split <;> simp only [cond_bind, Option.bind_some, Option.bind_none]) fun args out hSm hEq => by
  unfold rsweepS at hEq
  split at hEq
  · rename_i cx cy sd w h pb po x y u v b
    obtain ⟨N, n, e⟩ := rsweep_fin cx cy sd w h pb po x y u v b hSm
    exact ⟨N, n, (e AOut some).trans hEq⟩
  · cases hEq
--END
noncomputable def rpassTS : Fsp := fun _ args k => match args with
  | [.agg [.int .i64 cx, .int .i64 cy, .int .i64 sd, .int .i64 w, .int .i64 h, .ro (.int .i64) pb, .ro (.int .i64) po], .agg [.int .i64 fl, .int .i64 ke, .int .i64 sw, .int .i64 be, .int .i64 we], .agg [.int .i64 x, .int .i64 y], .agg [.int .i64 u, .int .i64 v]] => k (icT (pasB cx cy sd w h pb po fl ke sw be we x y u v) cx cy sd w h (chgL (fun i => toB cx cy sd w x y u v i) (fun i => wornV i we) pb) po)
  | _ => none
theorem rpassTS_ok : FspOk Tryz.prog 24 rpassTS := fsp_sim rpassS_ok (by intro α args k; unfold rpassTS; split <;> rfl) fun args out hq => by
  unfold rpassTS at hq
  split at hq
  · rename_i cx cy sd w h pb po fl ke sw be we x y u v
    cases hq
    obtain ⟨v1, v2, e1, e2, e3⟩ := ic_tot (pasB cx cy sd w h pb po fl ke sw be we x y u v) cx cy sd w h (chgL (fun i => toB cx cy sd w x y u v i) (fun i => wornV i we) pb) po
    refine ⟨v1, v2, e1, ?_, e3⟩
    rw [← e2]
    rfl
  · cases hq
noncomputable def rsweepTS : Fsp := fun _ args k => match args with
  | [.agg [.int .i64 cx, .int .i64 cy, .int .i64 sd, .int .i64 w, .int .i64 h, .ro (.int .i64) pb, .ro (.int .i64) po], .agg [.int .i64 x, .int .i64 y], .agg [.int .i64 u, .int .i64 v], .int .i64 b] => k (icT (twB cx cy sd w h pb po x y u v && grnB b) cx cy sd w h pb (chgL (fun i => toB cx cy sd w x y u v i) (fun i => moreV i b) po))
  | _ => none
theorem rsweepTS_ok : FspOk Tryz.prog 26 rsweepTS := fsp_sim rsweepS_ok (by intro α args k; unfold rsweepTS; split <;> rfl) fun args out hq => by
  unfold rsweepTS at hq
  split at hq
  · rename_i cx cy sd w h pb po x y u v b
    cases hq
    obtain ⟨v1, v2, e1, e2, e3⟩ := ic_tot (twB cx cy sd w h pb po x y u v && grnB b) cx cy sd w h pb (chgL (fun i => toB cx cy sd w x y u v i) (fun i => moreV i b) po)
    refine ⟨v1, v2, e1, ?_, e3⟩
    rw [← e2]
    rfl
  · cases hq
end Go.Proofs.YtbcjhjidhhecaaaGreat

/- IceWays: it answers true. -/
namespace Go.Proofs.YtbcjhjidhhecaaaGreat
open Go.RowKit

--FS fsIv | fsI12 | ialive=besom/besomlaw03.alive;iints=besom/besomref03.Ints;isame=besom/besomref03.Same;rtouched=besom/besomref03.Touched;rpassT=besom/besomref03.Pass;rsweepT=besom/besomref03.Sweep
noncomputable def fsIv : FuncId → Option Fsp := fun g =>
  if g = 8 then some ialiveS else
  if g = 27 then some iintsS else
  if g = 29 then some isameS else
  if g = 22 then some rtouchedS else
  if g = 24 then some rpassTS else
  if g = 26 then some rsweepTS else
  fsI12 g
theorem fsIv_ok : FsOk fsIv :=
  fs_cons ialiveS_ok <|
  fs_cons iintsS_ok <|
  fs_cons isameS_ok <|
  fs_cons rtouchedS_ok <|
  fs_cons rpassTS_ok <|
  fs_cons rsweepTS_ok <|
  fsI12_ok
--END
--AT fsIv spL twV
--TEXT iways | twV fsIv spL | 8 | besom/besomlaw03.IceWays | $ICB $GB (x y u v b : Int) | $ICE, $GR, $S{x y}, $S{u v}, $I{b}
--KEY 25126ac679
set_option maxRecDepth 100000 in
theorem iways_text (N n0 : Nat) (α : Type) (cx cy sd w h : Int) (pb po : List Int) (fl ke sw be we : Int) (x y u v b : Int) (k : AOut → Option α) : evFn real tab ((twV fsIv spL).env real tab N (n0 + 8)) N Tryz.f5 α [.agg [.int .i64 cx, .int .i64 cy, .int .i64 sd, .int .i64 w, .int .i64 h, .ro (.int .i64) pb, .ro (.int .i64) po], .agg [.int .i64 fl, .int .i64 ke, .int .i64 sw, .int .i64 be, .int .i64 we], .agg [.int .i64 x, .int .i64 y], .agg [.int .i64 u, .int .i64 v], .int .i64 b] k =
  bif decide ((↑pb.length : Int) > 400) then k (AOut.ret (AVal.bool true))
  else
    bif decide ((↑po.length : Int) > 400) then k (AOut.ret (AVal.bool true))
    else
      if ((List.nil (α := Int)).length + pb.length) * 8 ≤ room then
        if ((List.nil (α := Int)).length + po.length) * 8 ≤ room then
          bif tcV cx cy sd w h ([] ++ pb) ([] ++ po) x y u v == tcV cx cy sd w h pb po x y u v then
            bif er2 (twB cx cy sd w h ([] ++ pb) ([] ++ po) x y u v) == er2 (twB cx cy sd w h pb po x y u v) then
              bif
                  sameB (selI (pasB cx cy sd w h ([] ++ pb) ([] ++ po) fl ke sw be we x y u v) cx)
                    (selI (pasB cx cy sd w h ([] ++ pb) ([] ++ po) fl ke sw be we x y u v) cy)
                    (selI (pasB cx cy sd w h ([] ++ pb) ([] ++ po) fl ke sw be we x y u v) sd)
                    (selI (pasB cx cy sd w h ([] ++ pb) ([] ++ po) fl ke sw be we x y u v) w)
                    (selI (pasB cx cy sd w h ([] ++ pb) ([] ++ po) fl ke sw be we x y u v) h)
                    (selL (pasB cx cy sd w h ([] ++ pb) ([] ++ po) fl ke sw be we x y u v)
                      (chgL (fun (i : Nat) => toB cx cy sd w x y u v (↑i : Int)) (fun (i : Int) => wornV i we)
                        ([] ++ pb)))
                    (selL (pasB cx cy sd w h ([] ++ pb) ([] ++ po) fl ke sw be we x y u v) ([] ++ po))
                    (selI (pasB cx cy sd w h pb po fl ke sw be we x y u v) cx)
                    (selI (pasB cx cy sd w h pb po fl ke sw be we x y u v) cy)
                    (selI (pasB cx cy sd w h pb po fl ke sw be we x y u v) sd)
                    (selI (pasB cx cy sd w h pb po fl ke sw be we x y u v) w)
                    (selI (pasB cx cy sd w h pb po fl ke sw be we x y u v) h)
                    (selL (pasB cx cy sd w h pb po fl ke sw be we x y u v)
                      (chgL (fun (i : Nat) => toB cx cy sd w x y u v (↑i : Int)) (fun (i : Int) => wornV i we) pb))
                    (selL (pasB cx cy sd w h pb po fl ke sw be we x y u v) po) then
                bif
                    er2 (pasB cx cy sd w h ([] ++ pb) ([] ++ po) fl ke sw be we x y u v) ==
                      er2 (pasB cx cy sd w h pb po fl ke sw be we x y u v) then
                  bif
                      sameB (selI (twB cx cy sd w h ([] ++ pb) ([] ++ po) x y u v && grnB b) cx)
                        (selI (twB cx cy sd w h ([] ++ pb) ([] ++ po) x y u v && grnB b) cy)
                        (selI (twB cx cy sd w h ([] ++ pb) ([] ++ po) x y u v && grnB b) sd)
                        (selI (twB cx cy sd w h ([] ++ pb) ([] ++ po) x y u v && grnB b) w)
                        (selI (twB cx cy sd w h ([] ++ pb) ([] ++ po) x y u v && grnB b) h)
                        (selL (twB cx cy sd w h ([] ++ pb) ([] ++ po) x y u v && grnB b) ([] ++ pb))
                        (selL (twB cx cy sd w h ([] ++ pb) ([] ++ po) x y u v && grnB b)
                          (chgL (fun (i : Nat) => toB cx cy sd w x y u v (↑i : Int)) (fun (i : Int) => moreV i b)
                            ([] ++ po)))
                        (selI (twB cx cy sd w h pb po x y u v && grnB b) cx)
                        (selI (twB cx cy sd w h pb po x y u v && grnB b) cy)
                        (selI (twB cx cy sd w h pb po x y u v && grnB b) sd)
                        (selI (twB cx cy sd w h pb po x y u v && grnB b) w)
                        (selI (twB cx cy sd w h pb po x y u v && grnB b) h)
                        (selL (twB cx cy sd w h pb po x y u v && grnB b) pb)
                        (selL (twB cx cy sd w h pb po x y u v && grnB b)
                          (chgL (fun (i : Nat) => toB cx cy sd w x y u v (↑i : Int)) (fun (i : Int) => moreV i b)
                            po)) then
                    bif
                        er2 (twB cx cy sd w h ([] ++ pb) ([] ++ po) x y u v && grnB b) ==
                          er2 (twB cx cy sd w h pb po x y u v && grnB b) then
                      bif sameB cx cy sd w h ([] ++ pb) ([] ++ po) cx cy sd w h pb po then k (AOut.ret (AVal.bool true))
                      else k (AOut.ret (AVal.bool false))
                    else k (AOut.ret (AVal.bool false))
                  else k (AOut.ret (AVal.bool false))
                else k (AOut.ret (AVal.bool false))
              else k (AOut.ret (AVal.bool false))
            else k (AOut.ret (AVal.bool false))
          else k (AOut.ret (AVal.bool false))
        else none
      else none := by kernel_rfl
--END
theorem iways_true (cx cy sd w h : Int) (pb po : List Int) (fl ke sw be we : Int) (x y u v b : Int) : evFn real tab ((twV fsIv spL).env real tab 8 8) 8 Tryz.f5 AOut [.agg [.int .i64 cx, .int .i64 cy, .int .i64 sd, .int .i64 w, .int .i64 h, .ro (.int .i64) pb, .ro (.int .i64) po], .agg [.int .i64 fl, .int .i64 ke, .int .i64 sw, .int .i64 be, .int .i64 we], .agg [.int .i64 x, .int .i64 y], .agg [.int .i64 u, .int .i64 v], .int .i64 b] some = some (b1 true) := by
  refine (iways_text 8 0 AOut cx cy sd w h pb po fl ke sw be we x y u v b some).trans ?_
  by_cases h1 : (pb.length : Int) > 400
  · rw [decide_eq_true h1]; rfl
  by_cases h2 : (po.length : Int) > 400
  · rw [decide_eq_false h1, decide_eq_true h2]; rfl
  rw [decide_eq_false h1, decide_eq_false h2, if_pos (by simp [room]; omega), if_pos (by simp [room]; omega)]
  simp only [List.nil_append, sam_self, BEq.rfl, cond_true, cond_false]
  rfl
def iwaysF : List AVal → Option AOut
  | [.agg [.int .i64 cx, .int .i64 cy, .int .i64 sd, .int .i64 w, .int .i64 h, .ro (.int .i64) pb, .ro (.int .i64) po], .agg [.int .i64 fl, .int .i64 ke, .int .i64 sw, .int .i64 be, .int .i64 we], .agg [.int .i64 x, .int .i64 y], .agg [.int .i64 u, .int .i64 v], .int .i64 b] => some (b1 true)
  | _ => none
theorem iways_ok : FspOk Tryz.prog 5 (toFsp iwaysF) := tower_V fsIv_ok spL_ok ⟨Tryz.func5, fun _ _ => by kernel_rfl⟩ (toFsp_nat _) fun args out hSm hq => by
  replace hq := toFsp_some hq
  unfold iwaysF at hq
  split at hq
  · rename_i cx cy sd w h pb po fl ke sw be we x y u v b
    cases hq
    exact ⟨8, 8, iways_true cx cy sd w h pb po fl ke sw be we x y u v b⟩
  · cases hq
end Go.Proofs.YtbcjhjidhhecaaaGreat
