/- Parts of the proof, in build order. -/
import Derived.Test.YteaadpgpihggeaaM5
import Derived.ProofKit
import Derived.Test.YteaadpgpihggeaaChecked
import Derived.Test.YteaadpgpihggeaaM8
import Derived.Test.YteaadpgpihggeaaRows
import Derived.Test.YteaadpgpihggeaaM7
namespace Go.Proofs.Yteaadpgpihggeaa
open Go.RowKit
mutual
def fitB (P : Program) : Sh → TypeId → Bool
  | .int k, t =>
    match P.underlying t with
    | some (.int j) => decide (j = k)
    | _ => false
  | .bool, t =>
    match P.underlying t with
    | some .bool => true
    | _ => false
  | .str, t =>
    match P.underlying t with
    | some .string => true
    | _ => false
  | .recd fs, t =>
    match P.underlying t with
    | some (.struct l) => decide (P.cellsOf t = fs.size) && fitsB P fs l.toList 0
    | some (.array n u) => decide (P.cellsOf t = fs.size) && fitsA P fs u n
    | _ => false
  | .sl e, t =>
    match P.underlying t with
    | some (.slice u) => decide (P.cellsOf u = e.size) && decide (0 < e.size) && fitB P e u
    | _ => false
def fitsB (P : Program) : Shs → List Field → Nat → Bool
  | .nil, [], _ => true
  | .cons s r, f :: q, n => decide (f.offset = n) && decide (P.cellsOf f.type = s.size) && fitB P s f.type && fitsB P r q (n + s.size)
  | _, _, _ => false
def fitsA (P : Program) : Shs → TypeId → Nat → Bool
  | .nil, _, 0 => true
  | .cons s r, u, n + 1 => decide (P.cellsOf u = s.size) && fitB P s u && fitsA P r u n
  | _, _, _ => false
end
mutual
def Wf : (s : Sh) → s.ty → Prop
  | .int k, n => (Lit.int k n).wf = true
  | .bool, _ => True
  | .str, s => s.size ≤ maxLen
  | .recd fs, x => Wfs fs x
  | .sl e, xs => List.length (α := e.ty) xs ≤ maxLen ∧ ∀ x, List.Mem (α := e.ty) x xs → Wf e x
def Wfs : (fs : Shs) → fs.ty → Prop
  | .nil, _ => True
  | .cons s r, x => Wf s x.1 ∧ Wfs r x.2
end
theorem opened_cells {w : World} {base n : Nat} {a : Addr} {cs : List Value} (h : w.cells? base a n = some cs) : cs.length = n ∧ ∀ i, i < n → w.cell? (a.add i) = cs[i]? := by
  unfold World.cells? at h
  split at h
  · exact ⟨by simpa using mapM_some_length h, fun i hi => mapM_some_get h i i (by simp [hi])⟩
  · cases h
def gA (w : World) : Gh := ⟨fun _ => Go.undef, fun b => b < w.heap.size⟩
section
variable {P : Program} {H : Type} {enc : TypeId × Value → H} {w : World} {base : Nat} {spare : Nat → Bool} {held : Bool}
def Opens (w : World) (s : Sh) (y : s.ty) (cs : List Value) : Prop := Wf s y ∧ cs.length = s.size ∧ ∀ (j : Nat) c v, (s.cells y)[j]? = some c → cs[j]? = some v → Rep [] (gA w) w c v
theorem open_row {e : Sh} {a : Addr} {len cap : Nat} (hl : len ≤ cap) (hm : cap ≤ maxLen) (h0 : 0 < e.size)
    (each : ∀ i, i < len → ∃ cs, w.cells? base (a.add (i * e.size)) e.size = some cs ∧ ∃ y : e.ty, Opens w e y cs) : ∃ y : (Sh.sl e).ty, Opens w (.sl e) y [.slice (some a) len cap] := by
  rcases Nat.eq_zero_or_pos len with hz | hp
  · subst hz
    refine ⟨([] : List e.ty), ⟨Nat.zero_le _, fun x hx => by cases hx⟩, rfl, fun j c v hc hv => ?_⟩
    match j with
    | 0 => cases hc; cases hv; exact .ro0 e _ _ hm fun h => by cases h
    | j + 1 => cases hv
  · obtain ⟨b, o, spot⟩ := a
    have hb : b < w.heap.size := by
      obtain ⟨cs, h1, _⟩ := each 0 hp
      have := World.cells?_block h1 h0
      unfold Addr.add at this
      split at this <;> exact this
    have hspot : spot = none := by
      obtain ⟨cs, h1, y, _, h2, _⟩ := each 0 hp
      obtain ⟨hl, hc⟩ := opened_cells h1
      have h3 := hc 0 h0
      rw [List.getElem?_eq_getElem (by omega)] at h3
      simpa [Addr.add] using World.cell?_spot h3
    subst hspot
    have hadd : ∀ o i, (Addr.mk b o none).add i = ⟨b, o + i, none⟩ := fun o i => Addr.add_lit ..
    let f : Nat → e.ty := fun i => if h : i < len then Classical.choose (Classical.choose_spec (each i h)).2 else e.dflt
    have hf : ∀ i, i < len → ∃ cs, w.cells? base (Addr.add ⟨b, o, none⟩ (i * e.size)) e.size = some cs ∧ Opens w e (f i) cs := fun i hi => by
      refine ⟨Classical.choose (each i hi), (Classical.choose_spec (each i hi)).1, ?_⟩
      simp only [f, dif_pos hi]
      exact Classical.choose_spec (Classical.choose_spec (each i hi)).2
    have hget : ∀ (n : Nat) (x : e.ty), ((List.range len).map f)[n]? = some x → n < len ∧ x = f n := fun n x hn => by
      rw [List.getElem?_map] at hn
      rcases Nat.lt_or_ge n len with hlt | hge
      · rw [List.getElem?_range hlt] at hn; cases hn; exact ⟨hlt, rfl⟩
      · rw [List.getElem?_eq_none (by simpa using hge)] at hn; cases hn
    have hcell : ∀ (n : Nat) (x : e.ty) (j : Nat) c, ((List.range len).map f)[n]? = some x → (e.cells x)[j]? = some c → ∃ u, w.cell? ⟨b, o + n * e.size + j, none⟩ = some u ∧ Rep [] (gA w) w c u := fun n x j c hn hc => by
      obtain ⟨hlt, rfl⟩ := hget n x hn
      obtain ⟨cs, h1, _, h2, h3⟩ := hf n hlt
      obtain ⟨_, h4⟩ := opened_cells h1
      have hj : j < e.size := by rw [← Sh.cells_size e (f n)]; exact (List.getElem?_eq_some_iff.1 hc).1
      have h5 := h4 j hj
      rw [hadd, hadd] at h5
      have hcs : cs[j]? = some cs[j] := List.getElem?_eq_getElem (by omega)
      rw [hcs] at h5
      refine ⟨_, ?_, h3 j c _ hc hcs⟩
      exact h5
    have hlen : ((List.range len).map f).length = len := by simp
    refine ⟨(List.range len).map f, ⟨by show ((List.range len).map f).length ≤ _; omega, fun x hx => ?_⟩, rfl, fun j c v hc hv => ?_⟩
    · obtain ⟨n, hn⟩ := List.mem_iff_getElem?.1 (show x ∈ (List.range len).map f from hx)
      obtain ⟨hlt, rfl⟩ := hget n x hn
      obtain ⟨cs, _, h2, _⟩ := hf n hlt
      exact h2
    · match j with
      | 0 =>
        cases hc; cases hv
        have := Rep.ro1 (h := []) (g := gA w) (w := w) e ((List.range len).map f) b o cap (fun n j => (w.cell? ⟨b, o + n * e.size + j, none⟩).getD Go.undef) (by omega) (by omega) hm hb
          (fun n x j c hn hc => by obtain ⟨u, h1, _⟩ := hcell n x j c hn hc; rw [h1]; rfl)
          (fun n x j c hn hc => by obtain ⟨u, h1, h2⟩ := hcell n x j c hn hc; rw [h1]; exact h2)
        rw [hlen] at this
        exact this
      | j + 1 => cases hv
theorem trod_arr {fuel n : Nat} {t u : TypeId} {cs : List Value} {x : DataW H × List MemPlace} (hu : P.underlying t = some (.array n u)) (h : DataW.trod enc P w base spare held fuel t cs = some x) :
    cs.length = P.cellsOf t ∧ ∃ m, ∀ i, i < n → ∃ y, DataW.trod enc P w base spare held m u ((cs.drop (i * P.cellsOf u)).take (P.cellsOf u)) = some y := by
  cases fuel with
  | zero => simp [DataW.trod] at h
  | succ m =>
    unfold DataW.trod at h
    rw [hu] at h
    split at h <;> simp_all
    obtain ⟨_, xs, hp, _⟩ := h
    refine ⟨m, fun i hi => ?_⟩
    have hg := mapM_some_get hp i i (by simp [hi])
    have hl := mapM_some_length hp
    simp only [List.length_range] at hl
    rw [List.getElem?_eq_getElem (by omega)] at hg
    generalize xs[i] = p at hg
    exact ⟨p.1, p.2, hg⟩
mutual
theorem open_sh : (s : Sh) → ∀ (t : TypeId) (fuel : Nat) (cs : List Value) (x : DataW H × List MemPlace), fitB P s t = true → DataW.trod enc P w base spare held fuel t cs = some x → ∃ y : s.ty, Opens w s y cs
  | .int k, t, fuel, cs, x, hf, h => by
    simp only [fitB] at hf
    split at hf
    · rename_i j hu
      have := of_decide_eq_true hf
      subst this
      obtain ⟨n, rfl, _, hw⟩ := DataW.trod_int hu h
      refine ⟨(n : Int), hw, rfl, fun i c v hc hv => ?_⟩
      match i with
      | 0 => cases hc; cases hv; exact .int _ _
      | i + 1 => cases hv
    · cases hf
  | .bool, t, fuel, cs, x, hf, h => by
    simp only [fitB] at hf
    split at hf
    · rename_i hu
      obtain ⟨b, rfl, _⟩ := DataW.trod_bool hu h
      refine ⟨b, trivial, rfl, fun i c v hc hv => ?_⟩
      match i with
      | 0 => cases hc; cases hv; exact .bool _
      | i + 1 => cases hv
    · cases hf
  | .str, t, fuel, cs, x, hf, h => by
    simp only [fitB] at hf
    split at hf
    · rename_i hu
      obtain ⟨b, rfl, _, hl⟩ := DataW.trod_string hu h
      refine ⟨b, hl, rfl, fun i c v hc hv => ?_⟩
      match i with
      | 0 => cases hc; cases hv; exact .str _
      | i + 1 => cases hv
    · cases hf
  | .recd fs, t, fuel, cs, x, hf, h => by
    simp only [fitB] at hf
    split at hf
    · rename_i l hu
      simp only [Bool.and_eq_true, decide_eq_true_eq] at hf
      obtain ⟨xs, n, _, _, hl, hx, hfl⟩ := DataW.trod_struct hu h
      obtain ⟨y, hy, hr⟩ := open_shs fs l.toList 0 n cs hf.2 (fun f hm => by
        obtain ⟨i, hi⟩ := List.mem_iff_getElem?.1 hm
        have hi' : l[i]? = some f := by simpa using hi
        have hlt : i < xs.length := by rw [hx]; exact (Array.getElem?_eq_some_iff.1 hi').1
        exact ⟨xs[i], by rw [hfl i f hi', List.getElem?_eq_getElem hlt]⟩) (by rw [hl, hf.1]; omega)
      refine ⟨y, hy, by rw [hl, hf.1]; rfl, fun j c v hc hv => hr j c v hc (by rw [Nat.zero_add]; exact hv)⟩
    · rename_i n u hu
      simp only [Bool.and_eq_true, decide_eq_true_eq] at hf
      obtain ⟨hl, m, hx⟩ := trod_arr hu h
      obtain ⟨y, hy, hr⟩ := open_sha fs u n 0 m cs hf.2 (fun i hi => by rw [Nat.zero_add]; exact hx i hi) (by rw [hl, hf.1]; omega)
      refine ⟨y, hy, by rw [hl, hf.1]; rfl, fun j c v hc hv => hr j c v hc (by rw [Nat.zero_mul, Nat.zero_add]; exact hv)⟩
    · cases hf
  | .sl e, t, fuel, cs, x, hf, h => by
    simp only [fitB] at hf
    split at hf
    · rename_i u hu
      simp only [Bool.and_eq_true, decide_eq_true_eq] at hf
      obtain ⟨⟨h1, h2⟩, h3⟩ := hf
      rcases DataW.trod_slice hu h with ⟨rfl, -⟩ | ⟨a, len, cap, elems, rest, n, _, rfl, _, hb, hl, hm, hlen, hel, _, _⟩
      · refine ⟨([] : List e.ty), ⟨Nat.zero_le _, fun x hx => by cases hx⟩, rfl, fun j c v hc hv => ?_⟩
        match j with
        | 0 => cases hc; cases hv; exact .ro0 e _ _ (Nat.zero_le _) fun _ => rfl
        | j + 1 => cases hv
      · rw [h1] at hel
        refine open_row (base := base) hl hm h2 fun i hi => ?_
        have he := hel i hi
        rw [List.getElem?_eq_getElem (by omega)] at he
        obtain ⟨cs, e1, e2⟩ := Option.bind_eq_some_iff.1 he
        exact ⟨cs, e1, open_sh e u n cs _ h3 e2⟩
    · cases hf
theorem open_shs : (fs : Shs) → ∀ (l : List Field) (n0 fuel : Nat) (cs : List Value), fitsB P fs l n0 = true →
    (∀ f ∈ l, ∃ x : DataW H × List MemPlace, DataW.trod enc P w base spare held fuel f.type ((cs.drop f.offset).take (P.cellsOf f.type)) = some x) → n0 + fs.size ≤ cs.length →
    ∃ y : fs.ty, Wfs fs y ∧ ∀ (j : Nat) c v, (fs.cells y)[j]? = some c → cs[n0 + j]? = some v → Rep [] (gA w) w c v
  | .nil, l, n0, fuel, cs, hf, h, hl => ⟨(), trivial, fun j c v hc => by simp [Shs.cells] at hc⟩
  | .cons s r, [], n0, fuel, cs, hf, h, hl => by simp [fitsB] at hf
  | .cons s r, f :: q, n0, fuel, cs, hf, h, hl => by
    simp only [fitsB, Bool.and_eq_true, decide_eq_true_eq] at hf
    obtain ⟨⟨⟨h1, h2⟩, h3⟩, h4⟩ := hf
    simp only [Shs.size] at hl
    obtain ⟨x, hx⟩ := h f (by simp)
    obtain ⟨y1, w1, l1, r1⟩ := open_sh s f.type fuel _ x h3 hx
    obtain ⟨y2, w2, r2⟩ := open_shs r q (n0 + s.size) fuel cs h4 (fun f' hm => h f' (List.mem_cons_of_mem _ hm)) (by omega)
    refine ⟨(y1, y2), ⟨w1, w2⟩, fun j c v hc hv => ?_⟩
    simp only [Shs.cells] at hc
    rcases Nat.lt_or_ge j s.size with hj | hj
    · rw [List.getElem?_append_left (by rw [Sh.cells_size]; exact hj)] at hc
      refine r1 j c v hc ?_
      rw [h1, h2, List.getElem?_take, if_pos hj, List.getElem?_drop]
      exact hv
    · rw [List.getElem?_append_right (by rw [Sh.cells_size]; exact hj), Sh.cells_size] at hc
      refine r2 _ c v hc ?_
      rw [show n0 + s.size + (j - s.size) = n0 + j by omega]
      exact hv
theorem open_sha : (fs : Shs) → ∀ (u : TypeId) (n i0 fuel : Nat) (cs : List Value), fitsA P fs u n = true →
    (∀ i, i < n → ∃ x : DataW H × List MemPlace, DataW.trod enc P w base spare held fuel u ((cs.drop ((i0 + i) * P.cellsOf u)).take (P.cellsOf u)) = some x) → i0 * P.cellsOf u + fs.size ≤ cs.length →
    ∃ y : fs.ty, Wfs fs y ∧ ∀ (j : Nat) c v, (fs.cells y)[j]? = some c → cs[i0 * P.cellsOf u + j]? = some v → Rep [] (gA w) w c v
  | .nil, u, n, i0, fuel, cs, hf, h, hl => ⟨(), trivial, fun j c v hc => by simp [Shs.cells] at hc⟩
  | .cons s r, u, 0, i0, fuel, cs, hf, h, hl => by simp [fitsA] at hf
  | .cons s r, u, n + 1, i0, fuel, cs, hf, h, hl => by
    simp only [fitsA, Bool.and_eq_true, decide_eq_true_eq] at hf
    obtain ⟨⟨h2, h3⟩, h4⟩ := hf
    simp only [Shs.size] at hl
    obtain ⟨x, hx⟩ := h 0 (by omega)
    obtain ⟨y1, w1, l1, r1⟩ := open_sh s u fuel _ x h3 hx
    have hm : (i0 + 1) * P.cellsOf u = i0 * P.cellsOf u + s.size := by rw [Nat.add_mul, Nat.one_mul, h2]
    obtain ⟨y2, w2, r2⟩ := open_sha r u n (i0 + 1) fuel cs h4 (fun i hi => by
      have := h (i + 1) (by omega)
      rwa [show i0 + (i + 1) = i0 + 1 + i by omega] at this) (by rw [hm]; omega)
    refine ⟨(y1, y2), ⟨w1, w2⟩, fun j c v hc hv => ?_⟩
    simp only [Shs.cells] at hc
    rcases Nat.lt_or_ge j s.size with hj | hj
    · rw [List.getElem?_append_left (by rw [Sh.cells_size]; exact hj)] at hc
      refine r1 j c v hc ?_
      rw [h2, Nat.add_zero, List.getElem?_take, if_pos hj, List.getElem?_drop, ← h2]
      exact hv
    · rw [List.getElem?_append_right (by rw [Sh.cells_size]; exact hj), Sh.cells_size] at hc
      refine r2 _ c v hc ?_
      rw [hm, show i0 * P.cellsOf u + s.size + (j - s.size) = i0 * P.cellsOf u + j by omega]
      exact hv
end
end
end Go.Proofs.Yteaadpgpihggeaa

namespace Go.Proofs.Yteaadpgpihggeaa
open Go.ChangeShapes Go.WideShapes Go.ChangeAt Go.RowKit
theorem own_knob : ownKnob Try.prog.godebug = none := by kernel_rfl
theorem laid_out : laidOutB Try.prog = true := by kernel_rfl
theorem post_of_below {H : Type} {enc : TypeId × Value → H} {P : Program} {f : Func} {s : ChangeSpec} {apart fresh handsOn again : Bool} {W W' : World} {args : Array Value} {v : Value} {ds gs : List (DataW H)} {before pa pv : List MemPlace}
    (hW : DataW.Whole enc P f.params.toList s.vars apart W args.toList ds gs before)
    (hres : ∀ (b : Nat) (sp : Nat → Bool) (hd : Bool), DataW.TrodAll enc P W' b sp hd f.resultTypes.toList (v.resultList f.resultTypes.size) (s.fn H (ds ++ gs)).results [])
    (hargs : ∀ sp : Nat → Bool, (∀ p ∈ before, sp p.block = true) → DataW.TrodAll enc P W' 0 sp true f.params.toList args.toList (s.fn H (ds ++ gs)).args pa)
    (hvars : ∀ sp : Nat → Bool, (∀ p ∈ before, sp p.block = true) → DataW.TrodVars enc P W' sp s.vars (s.fn H (ds ++ gs)).vars pv)
    (hps : before = pa ++ pv) (hb : Below W.heap.size W W')
    (hok : ∀ (j : Nat) (t : TypeId) (r : Value), f.resultTypes[j]? = some t → (v.resultList f.resultTypes.size)[j]? = some r → Value.okWide P W' .any 0 t r) :
    s.post enc P f apart fresh handsOn again W args v W' := by
  have hold : ∀ p ∈ before, (fun b => decide (b < W.heap.size)) p.block = true := fun p hp => by simpa using hW.lt p hp
  have hlt := hW.lt
  refine ⟨ds, gs, before, [], pa, pv, hW, hres _ _ _, hargs _ hold, hvars _ hold, hb.frame _, fun _ => ?_⟩
  obtain ⟨_, _, _, _, _, hz, hn⟩ := hW
  refine ⟨hok, _, _, ([] ++ pa) ++ pv, ⟨[] ++ pa, pv, trodAll_append (hargs _ (fun _ _ => rfl)) (hres _ _ _), hvars _ (fun _ _ => rfl), rfl, ?_, ?_⟩, ?_⟩
  · intro b off hp
    have hm : MemPlace.cell b off ∈ before := by rw [hps]; simpa using hp
    rw [hb.frozen (p := ⟨b, off, none⟩) (hlt _ hm)]
    exact hz b off hm
  · intro ha
    have := hn ha
    rw [hps] at this
    simpa using this
  · intro p hp _
    rw [hps]
    simpa using hp
end Go.Proofs.Yteaadpgpihggeaa

namespace Go.Proofs.Yteaadpgpihggeaa
open Go.RowKit Go.ChangeShapes Go.WideShapes Go.ChangeAt
def Shs.vals : (fs : Shs) → fs.ty → List AVal
  | .nil, _ => []
  | .cons s r, x => s.val x.1 :: r.vals x.2
def fitsT (P : Program) : Shs → List TypeId → Bool
  | .nil, [] => true
  | .cons s r, t :: q => fitB P s t && (P.readableRec t && decide (t < P.types.size)) && fitsT P r q
  | _, _ => false
section
variable {P : Program} {H : Type} {enc : TypeId × Value → H} {w : World} {base : Nat} {spare : Nat → Bool} {held : Bool}
theorem open_arg {s : Sh} {t : TypeId} {v : Value} {d : DataW H} {ps : List MemPlace} {r : Reach} {b0 : Nat} (hf : fitB P s t = true) (hv : Value.okWide P w r b0 t v) (h : DataW.Trod enc P w base spare held t v d ps) :
    ∃ y : s.ty, Wf s y ∧ Rep [] (gA w) w (s.val y) v := by
  obtain ⟨fuel, h⟩ := h
  obtain ⟨y, h1, h2, h3⟩ := open_sh s t fuel _ _ hf h
  refine ⟨y, h1, ?_⟩
  have one : (∀ a, v ≠ .agg a) → s.cells y = [s.val y] → Rep [] (gA w) w (s.val y) v := fun hn hc => by
    have hcv : v.cells.toList = [v] := by cases v <;> first | rfl | exact absurd rfl (hn _)
    exact h3 0 _ v (by rw [hc]; rfl) (by rw [hcv]; rfl)
  cases s with
  | recd fs =>
    simp only [fitB] at hf
    split at hf
    · rename_i l hu
      simp only [Value.okWide, hu] at hv
      obtain ⟨cs, rfl, _⟩ := hv
      refine .agg _ _ ((Sh.cells_size (.recd fs) y).trans (by simpa [Value.cells] using h2.symm)) fun j c x hc hx => h3 j c x hc (by simpa [Value.cells] using hx)
    · rename_i n u hu
      simp only [Value.okWide, hu] at hv
      obtain ⟨cs, rfl, _⟩ := hv
      refine .agg _ _ ((Sh.cells_size (.recd fs) y).trans (by simpa [Value.cells] using h2.symm)) fun j c x hc hx => h3 j c x hc (by simpa [Value.cells] using hx)
    · cases hf
  | int k =>
    refine one (fun a e => ?_) rfl
    subst e
    simp only [fitB] at hf
    split at hf
    · rename_i j hu
      simp [Value.okWide, hu, Cell.okWide, Cell.ok] at hv
    · cases hf
  | bool =>
    refine one (fun a e => ?_) rfl
    subst e
    simp only [fitB] at hf
    split at hf
    · rename_i hu
      simp [Value.okWide, hu, Cell.okWide, Cell.ok] at hv
    · cases hf
  | str =>
    refine one (fun a e => ?_) rfl
    subst e
    simp only [fitB] at hf
    split at hf
    · rename_i hu
      simp [Value.okWide, hu, Cell.okWide, Cell.ok] at hv
    · cases hf
  | sl e0 =>
    refine one (fun a e => ?_) rfl
    subst e
    simp only [fitB] at hf
    split at hf
    · rename_i u hu
      simp [Value.okWide, hu, Cell.okWide, Cell.ok] at hv
    · cases hf
theorem open_all {r : Reach} {b0 : Nat} : ∀ (ss : Shs) (ts : List TypeId) (vs : List Value) (ds : List (DataW H)) (ps : List MemPlace), fitsT P ss ts = true → DataW.TrodAll enc P w base spare held ts vs ds ps →
    (∀ (j : Nat) t v, ts[j]? = some t → vs[j]? = some v → Value.okWide P w r b0 t v) →
    ∃ ys : ss.ty, Wfs ss ys ∧ (ss.vals ys).length = vs.length ∧ ds.length = ts.length ∧ ∀ (j : Nat) c v, (ss.vals ys)[j]? = some c → vs[j]? = some v → Rep [] (gA w) w c v
  | .nil, [], vs, ds, ps, hf, h, hv => by
    obtain ⟨rfl, rfl, rfl⟩ := trodAll_nil h
    exact ⟨(), trivial, rfl, rfl, fun j c v hc => by simp [Shs.vals] at hc⟩
  | .cons s q, [], vs, ds, ps, hf, h, hv => by simp [fitsT] at hf
  | .nil, _ :: _, vs, ds, ps, hf, h, hv => by simp [fitsT] at hf
  | .cons s q, t :: ts, vs, ds, ps, hf, h, hv => by
    simp only [fitsT, Bool.and_eq_true] at hf
    obtain ⟨v, vs', d, ds', p1, p2, rfl, rfl, rfl, h1, h2⟩ := trodAll_cons h
    obtain ⟨y, a1, a2⟩ := open_arg hf.1.1 (hv 0 t v rfl rfl) h1
    obtain ⟨ys, b1, b2, b3, b4⟩ := open_all q ts vs' ds' p2 hf.2 h2 fun j t v ht hv' => hv (j + 1) t v (by simpa using ht) (by simpa using hv')
    refine ⟨(y, ys), ⟨a1, b1⟩, by simp [Shs.vals, b2], by simp [b3], fun j c v hc hv' => ?_⟩
    cases j with
    | zero =>
      simp only [Shs.vals, List.getElem?_cons_zero, Option.some.injEq] at hc hv'
      subst hc; subst hv'; exact a2
    | succ j => exact b4 j c v (by simpa [Shs.vals] using hc) (by simpa using hv')
theorem all_stays (hl : laidOutB P = true) {W W' : World} {sp' : Nat → Bool} : ∀ (ss : Shs) (ts : List TypeId) (vs : List Value) (ds : List (DataW H)) (ps : List MemPlace), fitsT P ss ts = true → DataW.TrodAll enc P W base (fun _ => true) true ts vs ds ps →
    (∀ p ∈ ps, W.sameAt W' p) → (∀ p ∈ ps, sp' p.block = true) → DataW.TrodAll enc P W' base sp' true ts vs ds ps
  | .nil, [], vs, ds, ps, hf, h, _, _ => by
    obtain ⟨rfl, rfl, rfl⟩ := trodAll_nil h
    rfl
  | .cons s q, [], vs, ds, ps, hf, h, _, _ => by simp [fitsT] at hf
  | .nil, _ :: _, vs, ds, ps, hf, h, _, _ => by simp [fitsT] at hf
  | .cons s q, t :: ts, vs, ds, ps, hf, h, h1, h2 => by
    simp only [fitsT, Bool.and_eq_true, decide_eq_true_eq] at hf
    obtain ⟨v, vs', d, ds', p1, p2, rfl, rfl, rfl, a1, a2⟩ := trodAll_cons h
    exact ⟨p1, p2, WideElems.Trod_stays hl hf.1.2.1 hf.1.2.2 a1 (fun p hp => h1 p (by simp [hp])) (fun p hp => h2 p (by simp [hp])),
      all_stays hl q ts vs' ds' p2 hf.2 a2 (fun p hp => h1 p (by simp [hp])) (fun p hp => h2 p (by simp [hp])), rfl⟩
theorem law_post {F : List AVal → Option AOut} {fid : FuncId} {fn : Func} {s : ChangeSpec} {apart fresh handsOn again : Bool} (hF : FspOk P fid (toFsp F)) (hl : laidOutB P = true) (ss : Shs) (hfit : fitsT P ss fn.params.toList = true) (hnv : s.vars = [])
    {tb : TypeId} (hres : fn.resultTypes = #[tb]) (hb : P.underlying tb = some .bool) (hlaw : ∀ ys : ss.ty, Wfs ss ys → F (ss.vals ys) = some (.ret (.bool true)))
    (hfn : ∀ ds : List (DataW H), ds.length = fn.params.toList.length → (s.fn H ds).results = [.lit (.bool true)] ∧ (s.fn H ds).args = ds ∧ (s.fn H ds).vars = [])
    {W : World} {b0 : Nat} {args : Array Value} {ds gs : List (DataW H)} {before : List MemPlace}
    (hval : ∀ (j : Nat) t v, fn.params[j]? = some t → args[j]? = some v → Value.okWide P W .any b0 t v) (hW : DataW.Whole enc P fn.params.toList s.vars apart W args.toList ds gs before) :
    Calls P fid args W fun e W' => ∃ v, e = .returned v ∧ s.post enc P fn apart fresh handsOn again W args v W' := by
  have hW' := hW
  obtain ⟨p, q, hA, hV, rfl, hfz, hnd⟩ := hW
  rw [hnv] at hV
  obtain ⟨rfl, rfl⟩ := trodVars_none hV
  obtain ⟨ys, h1, h2, h3, h4⟩ := open_all ss _ _ _ _ hfit hA fun j t v ht hv => hval j t v (by simpa using ht) (by simpa using hv)
  have hcall := hF.calls (ss.vals ys) (.ret (.bool true)) (by unfold toFsp; rw [hlaw ys h1]) (fun b => b < W.heap.size) W args (fun b hb => hb) (by simpa using h2) fun j c x hc hx => h4 j c x hc (by simpa using hx)
  refine hcall.mono fun e W' hp => ?_
  obtain ⟨M', _, _, _, hbl, x, rfl, hr⟩ := hp
  have := rep_bool hr
  subst this
  obtain ⟨f1, f2, f3⟩ := hfn ds h3
  have hlt : ∀ x ∈ p, x.block < W.heap.size := fun x hx => hW'.lt x (by simpa using hx)
  refine ⟨_, rfl, post_of_below (pa := p ++ []) (pv := []) hW' (fun b sp hd => ?_) (fun sp hsp => ?_) (fun sp hsp => ?_) (by simp) hbl (ok_one hres rfl (okWide_bool_mk hb _))⟩
  · rw [List.append_nil, f1, hres]
    exact trodAll_mk1 (shut_bool hb _)
  · rw [List.append_nil, f2, List.append_nil]
    exact all_stays hl ss _ _ _ _ hfit hA (fun x hx => hbl.same (hlt x hx)) fun x hx => hsp x (by simpa using hx)
  · rw [List.append_nil, f3, hnv]
    rfl
end
end Go.Proofs.Yteaadpgpihggeaa

namespace Go.Proofs.Yteaadpgpihggeaa
open Go.RowKit Go.ChangeShapes Go.WideShapes Go.ChangeAt
section
variable {α : Type} (N : Nat)
def inLoop (n : Nat) (ys : List Int) (K : List Bool → Option α) : Option α :=
  afterL (iterL N (fun x : Int × List Bool × Unit =>
      bif decide (x.1 < (ys.length : Int)) then
        if 0 ≤ x.1 ∧ x.1 < (ys.length : Int) then
          if 0 ≤ ys.getD x.1.toNat (Int.ofNat 0) ∧ ys.getD x.1.toNat (Int.ofNat 0) < (x.2.1.length : Int) then
            some (LRes.cont (IntKind.i64.wrap (x.1 + 1), x.2.1.set (ys.getD x.1.toNat (Int.ofNat 0)).toNat true, ()))
          else none
        else none
      else some (LRes.brk 0 (x.1, x.2.1, ()))) (0, List.replicate (n : Int).toNat false, ()))
    fun id y => if id = 0 then K y.2.1 else none
def cntLoop (vs : List Int) (bs : List Bool) (K : Int → Int → List Int → Option α) : Option α :=
  afterL (iterL N (fun x : Int × Int × List Int × Int × Unit =>
      bif decide (x.2.2.2.1 < (vs.length : Int)) then
        if 0 ≤ x.2.2.2.1 ∧ x.2.2.2.1 < (vs.length : Int) then
          if 0 ≤ x.2.2.2.1 ∧ x.2.2.2.1 < (bs.length : Int) then
            bif bs.getD x.2.2.2.1.toNat false then
              some (LRes.cont (IntKind.i64.wrap (x.1 + vs.getD x.2.2.2.1.toNat (Int.ofNat 0)), IntKind.i64.wrap (x.2.1 + vs.getD x.2.2.2.1.toNat (Int.ofNat 0)), x.2.2.1, IntKind.i64.wrap (x.2.2.2.1 + 1), ()))
            else
              if (x.2.2.1.length + [x.2.2.2.1].length) * 8 ≤ room then
                some (LRes.cont (IntKind.i64.wrap (x.1 + vs.getD x.2.2.2.1.toNat (Int.ofNat 0)), x.2.1, x.2.2.1 ++ [x.2.2.2.1], IntKind.i64.wrap (x.2.2.2.1 + 1), ()))
              else none
          else none
        else none
      else some (LRes.brk 2 (x.1, x.2.1, x.2.2.1, x.2.2.2.1, ()))) (0, 0, [], 0, ()))
    fun id y => if id = 2 then K y.1 y.2.1 y.2.2.1 else none
def dot4Loop (vs ls : List Int) (K : Int → Option α) : Option α :=
  afterL (iterL N (fun x : Int × Int × Unit =>
      bif decide (x.2.1 < (vs.length : Int)) then
        if 0 ≤ x.2.1 ∧ x.2.1 < (vs.length : Int) then
          if 0 ≤ x.2.1 ∧ x.2.1 < (ls.length : Int) then
            some (LRes.cont (IntKind.i64.wrap (x.1 + IntKind.i64.wrap (vs.getD x.2.1.toNat (Int.ofNat 0) * ls.getD x.2.1.toNat (Int.ofNat 0))), IntKind.i64.wrap (x.2.1 + 1), ()))
          else none
        else none
      else some (LRes.brk 4 (x.1, x.2.1, ()))) (0, 0, ()))
    fun id y => if id = 4 then K y.1 else none
end
def tB (b : Bool) : AOut := .ret (.bool b)
def dbt (d : Int) : Int := IntKind.i64.wrap (1 + (IntKind.i64.wrap d).tmod 100)
end Go.Proofs.Yteaadpgpihggeaa

namespace Go.Proofs.Yteaadpgpihggeaa
open Go.RowKit Go.ChangeShapes Go.WideShapes Go.ChangeAt
theorem ml : maxLen = 9223372036854775807 := rfl
def insL (n : Nat) (ys : List Int) : List Bool := ys.foldl (fun l y => l.set y.toNat true) (List.replicate n false)
theorem ins_len' (n : Nat) : ∀ (ys : List Int) (l : List Bool), l.length = n → (ys.foldl (fun l y => l.set y.toNat true) l).length = n
  | [], _, h => h
  | y :: r, l, h => by rw [List.foldl_cons]; exact ins_len' n r _ (by simp [h])
theorem ins_len (n : Nat) (ys : List Int) : (insL n ys).length = n := ins_len' n ys _ (by simp)
theorem ins_at {n : Nat} {ys : List Int} (h : ∀ y ∈ ys, 0 ≤ y ∧ y < n) (j : Nat) (hj : j < n) : (insL n ys).getD j false = isIn ys j := by
  revert h
  refine list_snoc (P := fun ys => (∀ y ∈ ys, 0 ≤ y ∧ y < n) → (insL n ys).getD j false = isIn ys j) (fun _ => ?_) (fun l y ih h => ?_) ys
  · simp [insL, isIn, List.getD_eq_getElem?_getD, List.getElem?_replicate, hj]
  · have ih := ih fun z hz => h z (by simp [hz])
    have hy := h y (by simp)
    have e : insL n (l ++ [y]) = (insL n l).set y.toNat true := by simp [insL]
    have hl := ins_len n l
    rw [e]
    by_cases hq : y.toNat = j
    · subst hq
      rw [List.getD_eq_getElem?_getD, List.getElem?_set_self (by omega)]
      have : (y.toNat : Int) = y := by omega
      simp [isIn, this]
    · rw [List.getD_eq_getElem?_getD, List.getElem?_set_ne hq, ← List.getD_eq_getElem?_getD, ih]
      have : ¬ ((j : Int) = y) := by omega
      simp [isIn, this]
section
variable {α : Type} {N : Nat}
theorem in_plain {n : Nat} {ys : List Int} (h : ∀ y ∈ ys, 0 ≤ y ∧ y < n) (hl : ys.length ≤ maxLen) (hN : ys.length < N) (K : List Bool → Option α) : inLoop N n ys K = K (insL n ys) := by
  unfold inLoop
  generalize hf : (fun x : Int × List Bool × Unit => (_ : Option (LRes (Int × List Bool × Unit) α))) = f
  have e : iterL N f (0, List.replicate (n : Int).toNat false, ()) = some (.brk 0 ((ys.length : Int), insL n ys, ())) := by
    refine iterL_count (f := f) (fun i : Nat => ((i : Int), insL n (ys.take i), ())) (fun y e => by cases e) ys.length (fun i hi => ?_) ?_ 0 (Nat.zero_le _) N (by omega)
    · rw [← hf]
      have h1 : decide ((i : Int) < (ys.length : Int)) = true := decide_eq_true (by omega)
      have h2 : IntKind.i64.wrap ((i : Int) + 1) = ((i + 1 : Nat) : Int) := wrap_small (n := i + 1) (by omega)
      have h3 := h _ (List.getElem_mem hi)
      have h4 : ys.getD i 0 = ys[i] := by rw [List.getD_eq_getElem?_getD, List.getElem?_eq_getElem hi]; rfl
      rw [← h4] at h3
      simp only [h1, cond_true, h2, show Int.ofNat 0 = 0 from rfl, show ((i : Int)).toNat = i from rfl]
      rw [if_pos ⟨by omega, by omega⟩, if_pos (by rw [ins_len]; exact h3)]
      unfold insL
      rw [take_fold _ _ _ _ hi]
    · rw [← hf]
      have h1 : decide ((ys.length : Int) < (ys.length : Int)) = false := decide_eq_false (by omega)
      simp only [h1, cond_false, List.take_length]
  rw [e]
  rfl
theorem cnt_plain {vs : List Int} {bs : List Bool} {p : Nat → Bool} (hn : vs.length ≤ 49) (hb : bs.length = vs.length) (hp : ∀ i, i < vs.length → bs.getD i false = p i) (hv : ∀ i, 0 ≤ vs.getD i 0 ∧ vs.getD i 0 ≤ 1000100) (hN : vs.length < N) (K : Int → Int → List Int → Option α) :
    cntLoop N vs bs K = K (SP (at0 vs) (fun _ => true) vs.length) (SP (at0 vs) p vs.length) (others p vs.length) := by
  unfold cntLoop
  generalize hf : (fun x : Int × Int × List Int × Int × Unit => (_ : Option (LRes (Int × Int × List Int × Int × Unit) α))) = f
  have e : iterL N f (0, 0, [], 0, ()) = some (.brk 2 (SP (at0 vs) (fun _ => true) vs.length, SP (at0 vs) p vs.length, others p vs.length, (vs.length : Int), ())) := by
    refine iterL_count (f := f) (fun i : Nat => (SP (at0 vs) (fun _ => true) i, SP (at0 vs) p i, others p i, (i : Int), ())) (fun y e => by cases e) vs.length (fun i hi => ?_) ?_ 0 (Nat.zero_le _) N (by omega)
    · rw [← hf]
      have h1 : decide ((i : Int) < (vs.length : Int)) = true := decide_eq_true (by omega)
      have h2 : IntKind.i64.wrap ((i : Int) + 1) = ((i + 1 : Nat) : Int) := wrap_small (n := i + 1) (by have := ml; omega)
      have a1 := SP_in (f := at0 vs) (p := fun _ => true) (B := 1000100) hv i
      have a2 := SP_in (f := at0 vs) (p := p) (B := 1000100) hv i
      have a3 := hv i
      have hol : (others p i).length ≤ i := by
        have := ev_cnt (others_ev p i)
        have b := SP_in (f := fun _ => 1) (p := isIn (others p i)) (B := 1) (fun _ => by omega) i
        omega
      have w1 : IntKind.i64.wrap (SP (at0 vs) (fun _ => true) i + vs.getD i 0) = SP (at0 vs) (fun _ => true) (i + 1) := by rw [i64_w _ (by omega)]; rfl
      simp only [h1, cond_true, h2, show Int.ofNat 0 = 0 from rfl, show ((i : Int)).toNat = i from rfl, w1, hp i hi]
      rw [if_pos ⟨by omega, by omega⟩, if_pos ⟨by omega, by omega⟩]
      simp only [SP, others]
      cases p i
      · have hroom : room ≥ 1000 := by decide
        simp only [cond_false, List.length_singleton]
        rw [if_pos (by omega)]
        simp only [Int.add_zero]
      · simp only [cond_true]
        rw [i64_w _ (by omega)]
    · rw [← hf]
      have h1 : decide ((vs.length : Int) < (vs.length : Int)) = false := decide_eq_false (by omega)
      simp only [h1, cond_false]
  rw [e]
  rfl
theorem dot4_plain {vs ls : List Int} (he : ls.length = vs.length) (hl : vs.length ≤ maxLen) (hN : vs.length < N) (K : Int → Option α) : dot4Loop N vs ls K = K (dotA vs ls 0 vs.length) := by
  unfold dot4Loop
  generalize hf : (fun x : Int × Int × Unit => (_ : Option (LRes (Int × Int × Unit) α))) = f
  have e : iterL N f (0, 0, ()) = some (.brk 4 (dotA vs ls 0 vs.length, (vs.length : Int), ())) := by
    refine iterL_count (f := f) (fun i : Nat => (dotA vs ls 0 i, (i : Int), ())) (fun y e => by cases e) vs.length (fun i hi => ?_) ?_ 0 (Nat.zero_le _) N (by omega)
    · rw [← hf]
      have h1 : decide ((i : Int) < (vs.length : Int)) = true := decide_eq_true (by omega)
      have h2 : IntKind.i64.wrap ((i : Int) + 1) = ((i + 1 : Nat) : Int) := wrap_small (n := i + 1) (by omega)
      simp only [h1, cond_true, h2]
      rw [if_pos ⟨by omega, by omega⟩, if_pos ⟨by omega, by omega⟩]
      rfl
    · rw [← hf]
      have h1 : decide ((vs.length : Int) < (vs.length : Int)) = false := decide_eq_false (by omega)
      simp only [h1, cond_false]
  rw [e]
  rfl
end
theorem preS_SP (xs : List Int) : ∀ n, preS xs n = SP (at0 xs) (fun _ => true) n
  | 0 => rfl
  | n + 1 => by simp only [preS, SP, preS_SP xs n, cond_true]
theorem sumW_SP {xs : List Int} (hc : cntB xs = true) : sumW xs = SP (at0 xs) (fun _ => true) xs.length := by
  have h0 := sumW_cnt hc 0
  have h1 := sm_drop xs xs.length (Nat.le_refl _)
  rw [List.drop_zero] at h0
  rw [List.drop_length] at h1
  simp only [sm] at h1
  rw [h0, ← preS_SP]
  omega
structure Parts (xs ys os : List Int) (s : Int) (p : Nat → Bool) (T M : Int) : Prop where
  evo : chnB xs (others p xs.length) s = true
  den : chD xs ys s = T
  low : chL xs ys s ≤ M
  high : M ≤ chH xs ys s
  one : chL xs ys s + chH xs (others p xs.length) s = T
  two : chH xs ys s + chL xs (others p xs.length) s = T
  tin : 1 ≤ T ∧ T ≤ 49001000
theorem parts_of {xs ys os : List Int} {s : Int} (hc : chnB xs ys s = true) (hm : moreOk xs s os) : Parts xs ys os s (isIn ys) (SP (at0 (moreSt xs os s.toNat)) (fun _ => true) xs.length) (SP (at0 (moreSt xs os s.toNat)) (isIn ys) xs.length) := by
  have hc' := hc
  simp only [chnB, Bool.and_eq_true] at hc'
  obtain ⟨h1, h2, h3⟩ := hc'
  have hl := cnt_len h1
  have hn : 1 ≤ xs.length ∧ xs.length ≤ 49 := by omega
  have hs := inB_iff.1 h3
  have ev := ev_of hn h2
  have ev2 := others_ev (isIn ys) xs.length
  have hco : chnB xs (others (isIn ys) xs.length) s = true := by
    simp only [chnB, h1, h3, of_ev hn ev2, Bool.and_self]
  have hin2 : SP (fun _ => 1) (isIn (others (isIn ys) xs.length)) xs.length = SP (fun _ => 1) (fun i => !isIn ys i) xs.length := SP_congr _ fun i hi => ⟨others_in _ _ i hi, fun _ => rfl⟩
  have c1 := ev_cnt ev
  have c2 := ev_cnt ev2
  rw [hin2] at c2
  have c3 := SP_not (fun _ => 1) (isIn ys) xs.length
  rw [SP_one] at c3
  have b1 := SP_in (f := fun _ => 1) (p := isIn ys) (B := 1) (fun _ => by omega) xs.length
  have b2 := SP_in (f := fun _ => 1) (p := fun i => !isIn ys i) (B := 1) (fun _ => by omega) xs.length
  have s1 : evS xs ys = SP (at0 xs) (isIn ys) xs.length := (evS_sum h1 (by omega)).trans (sum_event _ _ _ ev)
  have s2 : evS xs (others (isIn ys) xs.length) = SP (at0 xs) (fun i => !isIn ys i) xs.length := (evS_sum h1 (by omega)).trans ((sum_event _ _ _ ev2).trans (SP_congr _ fun i hi => ⟨others_in _ _ i hi, fun _ => rfl⟩))
  have s3 := SP_not (at0 xs) (isIn ys) xs.length
  have hx : ∀ i, 0 ≤ at0 xs i ∧ at0 xs i ≤ 1000000 := cnt_at h1
  have i1 := SP_in (p := isIn ys) hx xs.length
  have i2 := SP_in (p := fun i => !isIn ys i) hx xs.length
  have i3 := SP_in (p := fun _ => true) hx xs.length
  have mi := more_is h1 hm s.toNat (Nat.le_refl _)
  have m1 := mi.sum (fun _ => true)
  have m2 := mi.sum (isIn ys)
  rw [came_all] at m1
  have m3 := came_in (isIn ys) xs os s.toNat
  have hden : denC xs s = SP (at0 (moreSt xs os s.toNat)) (fun _ => true) xs.length := by
    unfold denC
    rw [sumW_SP h1, i64_w _ (by omega), m1]; omega
  -- all, none
  have full : (ys.length : Int) = xs.length → SP (at0 (moreSt xs os s.toNat)) (isIn ys) xs.length = SP (at0 (moreSt xs os s.toNat)) (fun _ => true) xs.length := fun h => SP_congr _ fun i hi => ⟨SP_full _ (by omega) i hi, fun _ => rfl⟩
  have none' : (ys.length : Int) = 0 → SP (at0 (moreSt xs os s.toNat)) (isIn ys) xs.length = 0 := fun h => by
    rw [← SP_none (at0 (moreSt xs os s.toNat)) xs.length]
    exact SP_congr _ fun i hi => ⟨SP_empty (p := isIn ys) xs.length (by omega) i hi, fun h => by rw [SP_empty (p := isIn ys) xs.length (by omega) i hi] at h⟩
  have w1 : IntKind.i64.wrap (evS xs ys + s) = evS xs ys + s := i64_w _ (by omega)
  have w2 : IntKind.i64.wrap (evS xs (others (isIn ys) xs.length) + s) = evS xs (others (isIn ys) xs.length) + s := i64_w _ (by omega)
  have t := den_in h1 h3
  refine ⟨hco, ?_, ?_, ?_, ?_, ?_, ?_⟩
  · simp only [chD, hc, cond_true]; exact hden
  · simp only [chL, hc, cond_true, lowC]
    by_cases hf : (ys.length : Int) = xs.length
    · rw [beq_iff_eq.2 hf, cond_true, hden, full hf]; exact Int.le_refl _
    · rw [beq_eq_false_iff_ne.2 hf, cond_false]; omega
  · simp only [chH, hc, cond_true, highD]
    by_cases hf : (ys.length : Int) = 0
    · rw [beq_iff_eq.2 hf, cond_true, none' hf]; exact Int.le_refl _
    · rw [beq_eq_false_iff_ne.2 hf, cond_false, w1]; omega
  · simp only [chL, chH, hc, hco, cond_true, highD, lowC]
    by_cases hf : (ys.length : Int) = xs.length
    · rw [beq_iff_eq.2 hf, beq_iff_eq.2 (show ((others (isIn ys) xs.length).length : Int) = 0 by omega), cond_true, cond_true]; omega
    · rw [beq_eq_false_iff_ne.2 hf, beq_eq_false_iff_ne.2 (show ((others (isIn ys) xs.length).length : Int) ≠ 0 by omega), cond_false, cond_false, w2]; omega
  · simp only [chL, chH, hc, hco, cond_true, highD, lowC]
    by_cases hf : (ys.length : Int) = 0
    · rw [beq_iff_eq.2 hf, beq_iff_eq.2 (show ((others (isIn ys) xs.length).length : Int) = xs.length by omega), cond_true, cond_true]; omega
    · rw [beq_eq_false_iff_ne.2 hf, beq_eq_false_iff_ne.2 (show ((others (isIn ys) xs.length).length : Int) ≠ xs.length by omega), cond_false, cond_false, w1]; omega
  · rw [← hden]; exact t
theorem mean_parts {xs ls os : List Int} {s T : Int} (hb : meanB xs ls s = true) (hs : s ≤ 100) (hm : moreOk xs s os) (hT : denC xs s = T) :
    IntKind.i64.wrap (mnLo xs ls s * T) ≤ dotA (moreSt xs os s.toNat) ls 0 xs.length ∧ dotA (moreSt xs os s.toNat) ls 0 xs.length ≤ IntKind.i64.wrap (mnHi xs ls s * T) := by
  have hb' := hb
  simp only [meanB, Bool.and_eq_true] at hb'
  obtain ⟨h1, h2, h3⟩ := hb'
  have hl := cnt_len h1
  have hs' := inB_iff.1 h3
  have t := den_in h1 h3
  rw [hT] at t
  have hlen : ls.length = xs.length := by
    have := h2
    unfold valsB at this
    simp only [Bool.and_eq_true, beq_iff_eq] at this
    omega
  have bL := tot_in h1 h2 h3 (mnL_in h2)
  have bH := tot_in h1 h2 h3 (mxL_in h2)
  have eL : totL xs ls s = s * mnL ls + dotE xs ls xs.length := by
    unfold totL
    rw [dotA_eq, i64_w _ (by omega)]
  have eH : totH xs ls s = s * mxL ls + dotE xs ls xs.length := by
    unfold totH
    rw [dotA_eq, i64_w _ (by omega)]
  have hmn : ∀ j, j < xs.length → mnL ls ≤ ls.getD j 0 ∧ ls.getD j 0 ≤ mxL ls := fun j hj => by
    have key : ∀ (l : List Int) (a : Int), (l.foldl mnG a ≤ a ∧ a ≤ l.foldl mxG a) ∧ ∀ x ∈ l, l.foldl mnG a ≤ x ∧ x ≤ l.foldl mxG a := fun l => by
      induction l with
      | nil => intro a; simp
      | cons y r ih =>
        intro a
        rw [List.foldl_cons, List.foldl_cons]
        obtain ⟨⟨i1, _⟩, i2⟩ := ih (mnG a y)
        obtain ⟨⟨_, j1⟩, j2⟩ := ih (mxG a y)
        have g1 : mnG a y ≤ a ∧ mnG a y ≤ y := by unfold mnG; split <;> omega
        have g2 : a ≤ mxG a y ∧ y ≤ mxG a y := by unfold mxG; split <;> omega
        refine ⟨⟨by omega, by omega⟩, fun x hx => ?_⟩
        rcases List.mem_cons.1 hx with rfl | hx
        · omega
        · exact ⟨(i2 x hx).1, (j2 x hx).2⟩
    have hj' : j < ls.length := by omega
    have := (key ls (ls.getD 0 0)).2 _ (List.getElem_mem hj')
    have h4 : ls.getD j 0 = ls[j] := by rw [List.getD_eq_getElem?_getD, List.getElem?_eq_getElem hj']; rfl
    rw [h4]; exact this
  have md := more_dot h1 hm hmn s.toNat (Nat.le_refl _)
  rw [show ((s.toNat : Nat) : Int) = s by omega, ← Int.add_comm (s * mnL ls), ← Int.add_comm (s * mxL ls), ← eL, ← eH] at md
  have ed : dotA (moreSt xs os s.toNat) ls 0 xs.length = dotE (moreSt xs os s.toNat) ls xs.length := by
    have := dotA_eq (moreSt xs os s.toNat) ls 0 xs.length
    rw [i64_w 0 (by omega)] at this
    rw [this, i64_w _ (by omega)]
    omega
  rw [ed]
  simp only [mnLo, mnHi, hb, cond_true, rnd1, rnd2, hT]
  have q1 := Int.emod_add_mul_ediv (totL xs ls s) T
  have q2 := Int.emod_nonneg (totL xs ls s) (show T ≠ 0 by omega)
  have q3 := Int.emod_lt_of_pos (totL xs ls s) (show 0 < T by omega)
  have r1 := Int.emod_add_mul_ediv (-(totH xs ls s)) T
  have r2 := Int.emod_nonneg (-(totH xs ls s)) (show T ≠ 0 by omega)
  have r3 := Int.emod_lt_of_pos (-(totH xs ls s)) (show 0 < T by omega)
  rw [Int.neg_mul, Int.mul_comm _ T, Int.mul_comm _ T]
  generalize T * (totL xs ls s / T) = A at *
  generalize T * (-(totH xs ls s) / T) = B at *
  rw [i64_w _ (by omega), i64_w _ (by omega)]
  omega
def betweenF : List AVal → Option AOut
  | [.ro (.int .i64) _, .ro (.int .i64) _, .ro (.int .i64) _, .int .u8 d, .ro (.int .u8) os] => if (0 ≤ d ∧ d ≤ 255) ∧ List.all (α := Int) os (fun o => decide (0 ≤ o) && decide (o ≤ 255)) = true then some (tB true) else none
  | _ => none
def betweenSs : Shs := .cons (.sl (.int .i64)) (.cons (.sl (.int .i64)) (.cons (.sl (.int .i64)) (.cons (.int .u8) (.cons (.sl (.int .u8)) .nil))))
theorem between_wf (ys : betweenSs.ty) (h : Wfs betweenSs ys) : betweenF (betweenSs.vals ys) = some (tB true) := by
  obtain ⟨xs, ys, ls, d, os, u⟩ := ys
  obtain ⟨_, _, _, hd, ⟨_, ho⟩, _⟩ := h
  have hb : ∀ n : Int, (Lit.int .u8 n).wf = true → 0 ≤ n ∧ n ≤ 255 := fun n hn => by
    simp [Lit.wf, IntKind.min, IntKind.max, IntKind.signed, IntKind.bits] at hn
    omega
  have key : (0 ≤ (show Int from d) ∧ (show Int from d) ≤ 255) ∧ List.all (α := Int) os (fun o => decide (0 ≤ o) && decide (o ≤ 255)) = true := ⟨hb d hd, List.all_eq_true.2 fun o hm => by
    have := hb o (ho o hm)
    simp; omega⟩
  show betweenF [.ro (.int .i64) xs, .ro (.int .i64) ys, .ro (.int .i64) ls, .int .u8 d, .ro (.int .u8) os] = _
  unfold betweenF
  exact if_pos key
end Go.Proofs.Yteaadpgpihggeaa

namespace Go.Proofs.Yteaadpgpihggeaa
open Go.RowKit
theorem pre_dot {xs ys ls : List Int} {n : Nat} (h : ∀ i, i ≤ n → preS xs i ≤ preS ys i) (hm : ∀ i, i + 1 < n → ls.getD i 0 ≤ ls.getD (i + 1) 0) : ∀ k, k + 1 ≤ n →
    (preS xs (k + 1) - preS ys (k + 1)) * ls.getD k 0 ≤ dotE xs ls (k + 1) - dotE ys ls (k + 1)
  | 0, _ => by
    simp only [preS, dotE]
    grind
  | k + 1, hk => by
    have ih := pre_dot h hm k (by omega)
    have h1 := h (k + 1) (by omega)
    have h2 := hm k (by omega)
    have h3 := Int.mul_nonneg (a := preS ys (k + 1) - preS xs (k + 1)) (b := ls.getD (k + 1) 0 - ls.getD k 0) (by omega) (by omega)
    show (preS xs (k + 1) + xs.getD (k + 1) 0 - (preS ys (k + 1) + ys.getD (k + 1) 0)) * ls.getD (k + 1) 0 ≤ dotE xs ls (k + 1) + xs.getD (k + 1) 0 * ls.getD (k + 1) 0 - (dotE ys ls (k + 1) + ys.getD (k + 1) 0 * ls.getD (k + 1) 0)
    clear h hm
    generalize preS xs (k + 1) = P at *
    generalize preS ys (k + 1) = Q at *
    generalize dotE xs ls (k + 1) = A at *
    generalize dotE ys ls (k + 1) = B at *
    generalize xs.getD (k + 1) 0 = x at *
    generalize ys.getD (k + 1) 0 = y at *
    generalize ls.getD (k + 1) 0 = l at *
    generalize ls.getD k 0 = l' at *
    grind
theorem sumW_pre {xs : List Int} (hc : cntB xs = true) : sumW xs = preS xs xs.length := by
  have h0 := sumW_cnt hc 0
  have h1 := sm_drop xs xs.length (Nat.le_refl _)
  rw [List.drop_zero] at h0
  rw [List.drop_length] at h1
  simp only [sm] at h1
  omega
theorem bet_pre {xs ys : List Int} (h : btB xs ys = true) : (cntB xs = true ∧ cntB ys = true ∧ xs.length = ys.length) ∧ preS xs xs.length = preS ys xs.length ∧ ∀ i, i ≤ xs.length → preS xs i ≤ preS ys i := by
  unfold btB at h
  cases ht : twoOk xs ys
  · rw [ht] at h; cases h
  rw [ht, cond_true, ← better_same ht] at h
  unfold twoOk at ht
  simp only [Bool.and_eq_true, Bool.not_eq_true', bne_eq_false_iff_eq] at ht
  obtain ⟨h1, h2, h3⟩ := ht
  have hn := cnt_len h1
  unfold sbetB at h
  simp only [Bool.and_eq_true, Bool.not_eq_true', List.any_eq_false, beq_iff_eq] at h
  obtain ⟨h4, h5⟩ := h
  rw [dif_pre h1 h2 _ (by omega)] at h5
  refine ⟨⟨h1, h2, by omega⟩, by omega, fun i hi => ?_⟩
  cases i with
  | zero => simp [preS]
  | succ i =>
    have := h4 i (List.mem_range.2 (by omega))
    rw [dif_pre h1 h2 _ (by omega)] at this
    simp only [decide_eq_true_eq] at this
    omega
theorem grow_mean {xs ys ls : List Int} {m : Int} (h : btB xs ys = true) (hx : meanB xs ls m = true) (hy : meanB ys ls m = true) (hm : ∀ i, i + 1 < xs.length → ls.getD i 0 ≤ ls.getD (i + 1) 0) :
    mnLo ys ls m ≤ mnLo xs ls m ∧ mnHi ys ls m ≤ mnHi xs ls m := by
  obtain ⟨⟨c1, c2, hl⟩, p1, p2⟩ := bet_pre h
  have hx' := hx
  have hy' := hy
  simp only [meanB, Bool.and_eq_true] at hx' hy'
  obtain ⟨_, v1, m1⟩ := hx'
  obtain ⟨_, v2, _⟩ := hy'
  have hn := cnt_len c1
  have hm' := inB_iff.1 m1
  have dx := den_in c1 m1
  have dy := den_in c2 m1
  have bLx := tot_in c1 v1 m1 (mnL_in v1)
  have bHx := tot_in c1 v1 m1 (mxL_in v1)
  have bLy := tot_in c2 v2 m1 (mnL_in v2)
  have bHy := tot_in c2 v2 m1 (mxL_in v2)
  have hden : denC ys m = denC xs m := by
    unfold denC
    rw [sumW_pre c1, sumW_pre c2, ← hl, p1]
  have hdot : dotE ys ls ys.length ≤ dotE xs ls xs.length := by
    rw [← hl]
    obtain ⟨k, hk⟩ : ∃ k, xs.length = k + 1 := ⟨xs.length - 1, by omega⟩
    have := pre_dot p2 hm k (by omega)
    rw [hk] at p1 ⊢
    rw [p1, Int.sub_self, Int.zero_mul] at this
    omega
  have eLx : totL xs ls m = m * mnL ls + dotE xs ls xs.length := by unfold totL; rw [dotA_eq, i64_w _ (by omega)]
  have eHx : totH xs ls m = m * mxL ls + dotE xs ls xs.length := by unfold totH; rw [dotA_eq, i64_w _ (by omega)]
  have eLy : totL ys ls m = m * mnL ls + dotE ys ls ys.length := by unfold totL; rw [dotA_eq, i64_w _ (by omega)]
  have eHy : totH ys ls m = m * mxL ls + dotE ys ls ys.length := by unfold totH; rw [dotA_eq, i64_w _ (by omega)]
  simp only [mnLo, mnHi, hx, hy, cond_true, rnd1, rnd2, hden]
  refine ⟨Int.ediv_le_ediv (by omega) (by omega), ?_⟩
  have := Int.ediv_le_ediv (a := -totH xs ls m) (b := -totH ys ls m) (c := denC xs m) (by omega) (by omega)
  omega
def manyL (xs : List Int) (k : Int) : List Int := xs.map fun n => IntKind.i64.wrap (n * k)
theorem many_at {xs : List Int} {k : Int} (i : Nat) : (manyL xs k).getD i 0 = IntKind.i64.wrap (xs.getD i 0 * k) := by
  unfold manyL
  rw [List.getD_eq_getElem?_getD, List.getD_eq_getElem?_getD, List.getElem?_map]
  cases xs[i]? with
  | none => simp only [Option.map_none, Option.getD_none, Int.zero_mul]; rfl
  | some x => rfl
theorem mul_lin (x k : Int) (hk : 1 ≤ k ∧ k ≤ 5) (hx : 0 ≤ x ∧ x ≤ 1000000) : IntKind.i64.wrap (x * k) = x * k ∧ 0 ≤ x * k ∧ x * k ≤ 5000000 := by
  have h1 := Int.mul_nonneg hx.1 (show 0 ≤ k by omega)
  have h2 := Int.mul_le_mul hx.2 hk.2 (by omega) (by omega)
  exact ⟨i64_w _ (by omega), h1, by omega⟩
theorem many_SP {xs : List Int} {k : Int} (hk : 1 ≤ k ∧ k ≤ 5) (hc : cntB xs = true) (p : Nat → Bool) : ∀ n, SP (at0 (manyL xs k)) p n = SP (at0 xs) p n * k
  | 0 => by simp [SP]
  | n + 1 => by
    have ih := many_SP hk hc p n
    have h1 := (mul_lin _ k hk (cnt_at hc n)).1
    simp only [SP, ih, at0, many_at, h1]
    cases p n
    · simp
    · simp only [cond_true]; rw [Int.add_mul]
theorem grow_chance {xs ys : List Int} {m k : Int} (hk : 1 ≤ k ∧ k ≤ 5) (hx : chnB xs ys m = true) (hy : chnB (manyL xs k) ys m = true) :
    IntKind.i64.wrap (IntKind.i64.wrap (chH (manyL xs k) ys m - chL (manyL xs k) ys m) * chD xs ys m) ≤ IntKind.i64.wrap (IntKind.i64.wrap (chH xs ys m - chL xs ys m) * chD (manyL xs k) ys m) := by
  have hx' := hx
  have hy' := hy
  simp only [chnB, Bool.and_eq_true] at hx' hy'
  obtain ⟨c1, e1, m1⟩ := hx'
  obtain ⟨c2, e2, _⟩ := hy'
  have hm := inB_iff.1 m1
  have hl : (manyL xs k).length = xs.length := by simp [manyL]
  have hn := cnt_len c1
  have ev := ev_of (n := xs.length) (by omega) e1
  have c3 := ev_cnt ev
  have b1 := SP_in (f := fun _ => 1) (p := isIn ys) (B := 1) (fun _ => by omega) xs.length
  have s1 : evS xs ys = SP (at0 xs) (isIn ys) xs.length := (evS_sum c1 (by omega)).trans (sum_event _ _ _ ev)
  have s2 : evS (manyL xs k) ys = SP (at0 xs) (isIn ys) xs.length * k := ((evS_sum c2 (by omega)).trans (sum_event _ _ _ ev)).trans (many_SP hk c1 _ _)
  have d1 := den_in c1 m1
  have d2 := den_in c2 m1
  have t1 : denC xs m = SP (at0 xs) (fun _ => true) xs.length + m := by
    have i3 : 0 ≤ SP (at0 xs) (fun _ => true) xs.length ∧ SP (at0 xs) (fun _ => true) xs.length ≤ xs.length * 1000000 := SP_in (p := fun _ => true) (cnt_at c1) xs.length
    unfold denC
    rw [sumW_SP c1, i64_w _ (by omega)]
  have t2 : denC (manyL xs k) m = SP (at0 xs) (fun _ => true) xs.length * k + m := by
    have i3 : 0 ≤ SP (at0 (manyL xs k)) (fun _ => true) (manyL xs k).length ∧ SP (at0 (manyL xs k)) (fun _ => true) (manyL xs k).length ≤ (manyL xs k).length * 1000000 := SP_in (p := fun _ => true) (cnt_at c2) (manyL xs k).length
    unfold denC
    rw [sumW_SP c2, i64_w _ (by omega), hl, many_SP hk c1]
  have i1 : 0 ≤ SP (at0 xs) (isIn ys) xs.length ∧ SP (at0 xs) (isIn ys) xs.length ≤ xs.length * 1000000 := SP_in (p := isIn ys) (cnt_at c1) xs.length
  have i2 : 0 ≤ SP (at0 (manyL xs k)) (isIn ys) (manyL xs k).length ∧ SP (at0 (manyL xs k)) (isIn ys) (manyL xs k).length ≤ (manyL xs k).length * 1000000 := SP_in (p := isIn ys) (cnt_at c2) (manyL xs k).length
  have i3 : 0 ≤ SP (at0 xs) (fun _ => true) xs.length ∧ SP (at0 xs) (fun _ => true) xs.length ≤ xs.length * 1000000 := SP_in (p := fun _ => true) (cnt_at c1) xs.length
  rw [hl] at i2
  have i2' : 0 ≤ SP (at0 xs) (isIn ys) xs.length * k ∧ SP (at0 xs) (isIn ys) xs.length * k ≤ 49000000 := by
    rw [← many_SP hk c1 (isIn ys)]
    omega
  simp only [chL, chH, chD, hx, hy, cond_true, highD, lowC, hl, s1, s2]
  rw [t1] at d1 ⊢
  rw [t2] at d2 ⊢
  have i1' : 0 ≤ SP (at0 xs) (isIn ys) xs.length ∧ SP (at0 xs) (isIn ys) xs.length ≤ 49000000 := by omega
  have i3' : 0 ≤ SP (at0 xs) (fun _ => true) xs.length := by omega
  have full : (ys.length : Int) = xs.length → SP (at0 xs) (isIn ys) xs.length = SP (at0 xs) (fun _ => true) xs.length := fun h => SP_congr _ fun i hi => ⟨SP_full (p := isIn ys) _ (by omega) i hi, fun _ => rfl⟩
  have none' : (ys.length : Int) = 0 → SP (at0 xs) (isIn ys) xs.length = 0 := fun h => by
    rw [← SP_none (at0 xs) xs.length]
    exact SP_congr _ fun i hi => ⟨SP_empty (p := isIn ys) xs.length (by omega) i hi, fun h => by rw [SP_empty (p := isIn ys) xs.length (by omega) i hi] at h⟩
  have hTk := Int.mul_le_mul_of_nonneg_left hk.1 i3'
  generalize SP (at0 xs) (fun _ => true) xs.length = T at *
  generalize SP (at0 xs) (isIn ys) xs.length = E at *
  generalize hGTk : T * k = Tk at *
  generalize hGEk : E * k = Ek at *
  rw [i64_w (E + m) (by omega), i64_w (Ek + m) (by omega)]
  cases h0 : ((ys.length : Int) == 0)
  · cases hf : ((ys.length : Int) == (xs.length : Int))
    · simp only [cond_false]
      rw [show Ek + m - Ek = m by omega, show E + m - E = m by omega, i64_w m (by omega)]
      have a1 := Int.mul_le_mul_of_nonneg_left (show T + m ≤ Tk + m by omega) (show 0 ≤ m by omega)
      have a2 := Int.mul_le_mul hm.2 d2.2 (by omega) (by omega)
      have a3 := Int.mul_nonneg (show 0 ≤ m by omega) (show 0 ≤ T + m by omega)
      rw [i64_w _ (by omega), i64_w _ (by omega)]
      exact a1
    · have hE := full (by simpa using hf)
      simp only [cond_false, cond_true]
      have hEk : Ek = Tk := by rw [← hGEk, ← hGTk, hE]
      rw [hE, hEk, Int.sub_self, Int.sub_self, i64_w 0 (by omega), Int.zero_mul, Int.zero_mul]
      exact Int.le_refl _
  · have h0' : (ys.length : Int) = 0 := by simpa using h0
    have hE := none' h0'
    have hEk : Ek = 0 := by rw [← hGEk, hE, Int.zero_mul]
    have hf : ((ys.length : Int) == (xs.length : Int)) = false := beq_eq_false_iff_ne.2 (by omega)
    simp only [cond_true, hf, cond_false]
    rw [hE, hEk, Int.sub_self, i64_w 0 (by omega), Int.zero_mul, Int.zero_mul]
    exact Int.le_refl _
end Go.Proofs.Yteaadpgpihggeaa

namespace Go.Proofs.Yteaadpgpihggeaa
open Go.RowKit Go.ChangeShapes Go.WideShapes Go.ChangeAt
noncomputable def twG : Tower := ⟨env13, fun _ => false, fun _ => none, lookF fnsT⟩
theorem twG_ok : TwOk Try.prog twG where
  fs := env13_ok.fs
  sp := fun f S h => by cases h
  fn := look_ok fnsT_ok
section
variable {α : Type} (N : Nat)
def vlLoop (xs ss : List Int) (K : List Int → Option α) : Option α :=
  afterL (iterL N (fun x : Int × List Int × Int × Unit =>
      bif decide (x.2.2.1 < (xs.length : Int)) then
        bif decide (x.2.2.1 < (ss.length : Int)) then
          if 0 ≤ x.2.2.1 ∧ x.2.2.1 < (ss.length : Int) then
            if (x.2.1.length + [IntKind.i64.wrap (x.1 + IntKind.i64.wrap (ss.getD x.2.2.1.toNat (Int.ofNat 0)))].length) * 8 ≤ room then
              some (LRes.cont (IntKind.i64.wrap (x.1 + IntKind.i64.wrap (ss.getD x.2.2.1.toNat (Int.ofNat 0))), x.2.1 ++ [IntKind.i64.wrap (x.1 + IntKind.i64.wrap (ss.getD x.2.2.1.toNat (Int.ofNat 0)))], IntKind.i64.wrap (x.2.2.1 + 1), ()))
            else none
          else none
        else
          if (x.2.1.length + [x.1].length) * 8 ≤ room then some (LRes.cont (x.1, x.2.1 ++ [x.1], IntKind.i64.wrap (x.2.2.1 + 1), ())) else none
      else some (LRes.brk 0 (x.1, x.2.1, x.2.2.1, ()))) (-30000, [], 0, ()))
    fun id y => if id = 0 then K y.2.1 else none
def myLoop (xs : List Int) (c : Int) (K : List Int → Option α) : Option α :=
  afterL (iterL N (fun x : List Int × Int × Unit =>
      bif decide (x.2.1 < (xs.length : Int)) then
        if 0 ≤ x.2.1 ∧ x.2.1 < (xs.length : Int) then
          if (x.1.length + [IntKind.i64.wrap (xs.getD x.2.1.toNat (Int.ofNat 0) * c)].length) * 8 ≤ room then
            some (LRes.cont (x.1 ++ [IntKind.i64.wrap (xs.getD x.2.1.toNat (Int.ofNat 0) * c)], IntKind.i64.wrap (x.2.1 + 1), ()))
          else none
        else none
      else some (LRes.brk 2 (x.1, x.2.1, ()))) ([], 0, ()))
    fun id y => if id = 2 then K y.1 else none
end
def gwK {α : Type} (xs zs : List Int) (m : Int) (k : AOut → Option α) (ys : List Int) : Option α :=
  bif chE xs zs m != 0 then k (tB true)
  else bif chE ys zs m != 0 then k (tB true)
  else k (tB (decide (IntKind.i64.wrap (IntKind.i64.wrap (chH ys zs m - chL ys zs m) * chD xs zs m) ≤ IntKind.i64.wrap (IntKind.i64.wrap (chH xs zs m - chL xs zs m) * chD ys zs m))))
def tmsI (t : Int) : Int := IntKind.i64.wrap (1 + (IntKind.i64.wrap t).tmod 5)
set_option maxRecDepth 100000 in
theorem grows_text (N : Nat) (α : Type) (xs ys ss zs : List Int) (m t : Int) (k : AOut → Option α) : evFn real tab (twG.env real tab N 3) N Try.f3 α [.ro (.int .i64) xs, .ro (.int .i64) ys, .ro (.int .u16) ss, .ro (.int .i64) zs, .int .i64 m, .int .u8 t] k =
 bif [xs, ys, zs].any longB then k (tB true) else bif decide ((ss.length : Int) > 60) then k (tB true) else vlLoop N xs ss fun ls => bif btE xs ys == 0 then bif mnE xs ls m == 0 then
 bif mnE ys ls m == 0 then bif btB xs ys then bif decide (mnLo xs ls m < mnLo ys ls m) then k (tB false) else bif decide (mnHi xs ls m < mnHi ys ls m) then k (tB false) else myLoop N
 xs (tmsI t) (gwK xs zs m k) else myLoop N xs (tmsI t) (gwK xs zs m k) else myLoop N xs (tmsI t) (gwK xs zs m k) else myLoop N xs (tmsI t) (gwK xs zs m k) else myLoop N xs (tmsI t)
 (gwK xs zs m k) := by kernel_rfl
def atS (ss : List Int) : Nat → Int
  | 0 => -30000
  | i + 1 => bif decide ((i : Int) < (ss.length : Int)) then IntKind.i64.wrap (atS ss i + IntKind.i64.wrap (ss.getD i 0)) else atS ss i
def valS (ss : List Int) : Nat → List Int
  | 0 => []
  | i + 1 => valS ss i ++ [atS ss (i + 1)]
theorem valS_len (ss : List Int) : ∀ i, (valS ss i).length = i
  | 0 => rfl
  | i + 1 => by rw [valS, List.length_append, valS_len ss i]; rfl
theorem valS_at (ss : List Int) : ∀ n i, i < n → (valS ss n).getD i 0 = atS ss (i + 1)
  | 0, i, h => by omega
  | n + 1, i, h => by
    rw [valS, List.getD_eq_getElem?_getD]
    rcases Nat.lt_or_ge i n with hi | hi
    · rw [List.getElem?_append_left (by rw [valS_len]; exact hi), ← List.getD_eq_getElem?_getD, valS_at ss n i hi]
    · have : i = n := by omega
      subst this
      rw [List.getElem?_append_right (by rw [valS_len]; omega), valS_len, Nat.sub_self]; rfl
theorem atS_in {ss : List Int} (ho : ss.all (fun o => decide (0 ≤ o) && decide (o ≤ 65535)) = true) : ∀ i : Nat, i ≤ 100 → (-30000 ≤ atS ss i ∧ atS ss i ≤ -30000 + 65535 * (i : Int)) ∧ atS ss i ≤ atS ss (i + 1)
  | i, hi => by
    have hat : ∀ j, 0 ≤ ss.getD j 0 ∧ ss.getD j 0 ≤ 65535 := fun j => by
      rcases Nat.lt_or_ge j ss.length with hj | hj
      · rw [List.getD_eq_getElem?_getD, List.getElem?_eq_getElem hj]
        have := List.all_eq_true.1 ho _ (List.getElem_mem hj)
        simpa using this
      · rw [List.getD_eq_getElem?_getD, List.getElem?_eq_none hj]; simp
    have key : ∀ i : Nat, i ≤ 101 → -30000 ≤ atS ss i ∧ atS ss i ≤ -30000 + 65535 * (i : Int) := fun i => by
      induction i with
      | zero => intro _; simp [atS]
      | succ i ih =>
        intro h
        have := ih (by omega)
        have a := hat i
        simp only [atS]
        cases decide ((i : Int) < (ss.length : Int))
        · simp only [cond_false]; omega
        · simp only [cond_true]; rw [i64_w (ss.getD i 0) (by omega), i64_w _ (by omega)]; omega
    refine ⟨key i (by omega), ?_⟩
    have a := hat i
    have := key i (by omega)
    simp only [atS]
    cases decide ((i : Int) < (ss.length : Int))
    · simp only [cond_false]; omega
    · simp only [cond_true]; rw [i64_w (ss.getD i 0) (by omega), i64_w _ (by omega)]; omega
theorem vl_plain {α : Type} {N : Nat} (xs ss : List Int) (hx : xs.length ≤ 60) (hN : xs.length < N) (K : List Int → Option α) : vlLoop N xs ss K = K (valS ss xs.length) := by
  have hroom : room ≥ 1000 := by decide
  unfold vlLoop
  generalize hf : (fun x : Int × List Int × Int × Unit => (_ : Option (LRes (Int × List Int × Int × Unit) α))) = f
  have e : iterL N f (-30000, [], 0, ()) = some (.brk 0 (atS ss xs.length, valS ss xs.length, (xs.length : Int), ())) := by
    refine iterL_count (f := f) (fun i : Nat => (atS ss i, valS ss i, (i : Int), ())) (fun y e => by cases e) xs.length (fun i hi => ?_) ?_ 0 (Nat.zero_le _) _ (by omega)
    · rw [← hf]
      have hd : decide ((i : Int) < (xs.length : Int)) = true := decide_eq_true (by omega)
      have hw : IntKind.i64.wrap ((i : Int) + 1) = ((i + 1 : Nat) : Int) := wrap_small (n := i + 1) (by have : maxLen = 9223372036854775807 := rfl; omega)
      have hl := valS_len ss i
      simp only [hd, cond_true, hw, valS, atS, List.length_singleton]
      cases hs : decide ((i : Int) < (ss.length : Int))
      · simp only [cond_false]
        rw [if_pos (by omega)]
      · have := of_decide_eq_true hs
        simp only [cond_true]
        rw [if_pos (by omega), if_pos (by omega)]
        rfl
    · rw [← hf]
      have hd : decide ((xs.length : Int) < (xs.length : Int)) = false := decide_eq_false (by omega)
      simp only [hd, cond_false]
  rw [e]
  rfl
theorem manyL_take (xs : List Int) (c : Int) (i : Nat) (h : i < xs.length) : manyL (xs.take (i + 1)) c = manyL (xs.take i) c ++ [IntKind.i64.wrap (xs.getD i 0 * c)] := by
  unfold manyL
  rw [List.take_add_one, List.getElem?_eq_getElem h, List.map_append, List.getD_eq_getElem?_getD, List.getElem?_eq_getElem h]
  rfl
theorem my_plain {α : Type} {N : Nat} (xs : List Int) (c : Int) (hx : xs.length ≤ 60) (hN : xs.length < N) (K : List Int → Option α) : myLoop N xs c K = K (manyL xs c) := by
  have hroom : room ≥ 1000 := by decide
  unfold myLoop
  generalize hf : (fun x : List Int × Int × Unit => (_ : Option (LRes (List Int × Int × Unit) α))) = f
  have e : iterL N f ([], 0, ()) = some (.brk 2 (manyL (xs.take xs.length) c, (xs.length : Int), ())) := by
    refine iterL_count (f := f) (fun i : Nat => (manyL (xs.take i) c, (i : Int), ())) (fun y e => by cases e) xs.length (fun i hi => ?_) ?_ 0 (Nat.zero_le _) _ (by omega)
    · rw [← hf]
      have hd : decide ((i : Int) < (xs.length : Int)) = true := decide_eq_true (by omega)
      have hw : IntKind.i64.wrap ((i : Int) + 1) = ((i + 1 : Nat) : Int) := wrap_small (n := i + 1) (by have : maxLen = 9223372036854775807 := rfl; omega)
      have hl : (manyL (xs.take i) c).length = i := by simp [manyL]; omega
      simp only [hd, cond_true, hw, manyL_take xs c i hi, List.length_singleton]
      rw [if_pos (by omega), if_pos (by omega)]
      rfl
    · rw [← hf]
      have hd : decide ((xs.length : Int) < (xs.length : Int)) = false := decide_eq_false (by omega)
      simp only [hd, cond_false]
  rw [e, List.take_length]
  rfl
theorem grows_true {α : Type} (xs ys ss zs : List Int) (m t : Int) (ht : 0 ≤ t ∧ t ≤ 255) (ho : ss.all (fun o => decide (0 ≤ o) && decide (o ≤ 65535)) = true) (k : AOut → Option α) :
    evFn real tab (twG.env real tab 100 3) 100 Try.f3 α [.ro (.int .i64) xs, .ro (.int .i64) ys, .ro (.int .u16) ss, .ro (.int .i64) zs, .int .i64 m, .int .u8 t] k = k (tB true) := by
  rw [grows_text]
  have hk : 1 ≤ tmsI t ∧ tmsI t ≤ 5 := by
    have := Int.tmod_nonneg 5 ht.1
    have h2 := Int.tmod_lt_of_pos t (show (0 : Int) < 5 by omega)
    unfold tmsI
    rw [i64_w t (by omega), i64_w _ (by omega)]
    omega
  generalize tmsI t = c at *
  cases hodd : ([xs, ys, zs] : List (List Int)).any longB
  · cases h1 : decide ((ss.length : Int) > 60)
    · simp only [cond_false]
      have hlx : xs.length ≤ 60 := by
        simp only [List.any_cons, List.any_nil, Bool.or_false, Bool.or_eq_false_iff, longB, decide_eq_false_iff_not] at hodd
        omega
      have tail : gwK xs zs m k (manyL xs c) = k (tB true) := by
        unfold gwK
        cases hx : chnB xs zs m
        · simp [chE, hx]
        cases hy : chnB (manyL xs c) zs m
        · simp [chE, hx, hy]
        have e1 : (chE xs zs m != 0) = false := by simp [chE, hx]
        have e2 : (chE (manyL xs c) zs m != 0) = false := by simp [chE, hy]
        rw [e1, e2, cond_false, cond_false, decide_eq_true (grow_chance hk hx hy)]
      rw [vl_plain xs ss hlx (by omega), my_plain xs c hlx (by omega), tail]
      cases h2 : (btE xs ys == 0)
      · rfl
      cases h3 : meanB xs (valS ss xs.length) m
      · simp [mnE, h3]
      cases h4 : meanB ys (valS ss xs.length) m
      · simp [mnE, h3, h4]
      cases h5 : btB xs ys
      · simp [mnE, h3, h4]
      have g := grow_mean h5 h3 h4 fun i hi => by
        rw [valS_at ss _ i (by omega), valS_at ss _ (i + 1) hi]
        exact (atS_in ho (i + 1) (by omega)).2
      rw [decide_eq_false (by omega), decide_eq_false (by omega)]
      simp [mnE, h3, h4]
    · rfl
  · rfl
def growsF : List AVal → Option AOut
  | [.ro (.int .i64) _, .ro (.int .i64) _, .ro (.int .u16) ss, .ro (.int .i64) _, .int .i64 _, .int .u8 t] => if (0 ≤ t ∧ t ≤ 255) ∧ List.all (α := Int) ss (fun o => decide (0 ≤ o) && decide (o ≤ 65535)) = true then some (tB true) else none
  | _ => none
theorem grows_ok : FspOk Try.prog 3 (toFsp growsF) := tower_fsp mixed tabOk twG_ok ⟨Try.func3, fun _ _ => by kernel_rfl⟩ fun args out hs hF => by
  unfold growsF at hF
  split at hF
  · rename_i xs ys ss zs m t
    split at hF
    · rename_i h
      cases hF
      exact ⟨100, 3, grows_true xs ys ss zs m t h.1 h.2 some⟩
    · cases hF
  · cases hF
def growsSs : Shs := .cons (.sl (.int .i64)) (.cons (.sl (.int .i64)) (.cons (.sl (.int .u16)) (.cons (.sl (.int .i64)) (.cons (.int .i64) (.cons (.int .u8) .nil)))))
theorem grows_wf (ys : growsSs.ty) (h : Wfs growsSs ys) : growsF (growsSs.vals ys) = some (tB true) := by
  obtain ⟨xs, ys, ss, zs, m, t, u⟩ := ys
  obtain ⟨_, _, ⟨_, ho⟩, _, _, ht, _⟩ := h
  have hb : ∀ n : Int, (Lit.int .u8 n).wf = true → 0 ≤ n ∧ n ≤ 255 := fun n hn => by
    simp [Lit.wf, IntKind.min, IntKind.max, IntKind.signed, IntKind.bits] at hn
    omega
  have hb' : ∀ n : Int, (Lit.int .u16 n).wf = true → 0 ≤ n ∧ n ≤ 65535 := fun n hn => by
    simp [Lit.wf, IntKind.min, IntKind.max, IntKind.signed, IntKind.bits] at hn
    omega
  have key : (0 ≤ (show Int from t) ∧ (show Int from t) ≤ 255) ∧ List.all (α := Int) ss (fun o => decide (0 ≤ o) && decide (o ≤ 65535)) = true := ⟨hb t ht, List.all_eq_true.2 fun o hm => by
    have := hb' o (ho o hm)
    simp; omega⟩
  show growsF [.ro (.int .i64) xs, .ro (.int .i64) ys, .ro (.int .u16) ss, .ro (.int .i64) zs, .int .i64 m, .int .u8 t] = _
  unfold growsF
  exact if_pos key
end Go.Proofs.Yteaadpgpihggeaa
