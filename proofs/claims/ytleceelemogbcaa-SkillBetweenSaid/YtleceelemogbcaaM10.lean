/- Parts of the proof, in build order. -/
import Derived.Test.YtleceelemogbcaaM5
import Derived.ProofKit
import Derived.Test.YtleceelemogbcaaChecked
import Derived.Test.YtleceelemogbcaaM9
import Derived.Test.YtleceelemogbcaaRows
/- A law's arguments, opened by their shapes. -/
namespace Go.Proofs.Ytleceelemogbcaa
open Go.RowKit

mutual
/-- Is a type of such a shape? -/
def fitB (P : Program) : Sh → TypeId → Bool
  | .int k, t =>
    match P.underlying t with
    | some (.int j) => decide (j = k)
    | _ => false
  | .bool, t =>
    match P.underlying t with
    | some .bool => true
    | _ => false
  | .str, t =>
    match P.underlying t with
    | some .string => true
    | _ => false
  | .recd fs, t =>
    match P.underlying t with
    | some (.struct l) => decide (P.cellsOf t = fs.size) && fitsB P fs l.toList 0
    | _ => false
  | .sl e, t =>
    match P.underlying t with
    | some (.slice u) => decide (P.cellsOf u = e.size) && decide (0 < e.size) && fitB P e u
    | _ => false
def fitsB (P : Program) : Shs → List Field → Nat → Bool
  | .nil, [], _ => true
  | .cons s r, f :: q, n => decide (f.offset = n) && decide (P.cellsOf f.type = s.size) && fitB P s f.type && fitsB P r q (n + s.size)
  | _, _, _ => false
end

mutual
/-- Data that a machine can hold. -/
def Wf : (s : Sh) → s.ty → Prop
  | .int k, n => (Lit.int k n).wf = true
  | .bool, _ => True
  | .str, s => s.size ≤ maxLen
  | .recd fs, x => Wfs fs x
  | .sl e, xs => List.length (α := e.ty) xs ≤ maxLen ∧ ∀ x, List.Mem (α := e.ty) x xs → Wf e x
def Wfs : (fs : Shs) → fs.ty → Prop
  | .nil, _ => True
  | .cons s r, x => Wf s x.1 ∧ Wfs r x.2
end

theorem opened_cells {w : World} {base n : Nat} {a : Addr} {cs : List Value} (h : w.cells? base a n = some cs) : cs.length = n ∧ ∀ i, i < n → w.cell? (a.add i) = cs[i]? := by
  unfold World.cells? at h
  split at h
  · exact ⟨by simpa using mapM_some_length h, fun i hi => mapM_some_get h i i (by simp [hi])⟩
  · cases h

/-- Whatever lies in the heap stays. -/
def gA (w : World) : Gh := ⟨fun _ => Go.undef, fun b => b < w.heap.size⟩

section
variable {P : Program} {H : Type} {enc : TypeId × Value → H} {w : World} {base : Nat} {spare : Nat → Bool} {held : Bool}

def Opens (w : World) (s : Sh) (y : s.ty) (cs : List Value) : Prop := Wf s y ∧ cs.length = s.size ∧ ∀ (j : Nat) c v, (s.cells y)[j]? = some c → cs[j]? = some v → Rep [] (gA w) w c v

theorem open_row {e : Sh} {a : Addr} {len cap : Nat} (hl : len ≤ cap) (hm : cap ≤ maxLen) (h0 : 0 < e.size)
    (each : ∀ i, i < len → ∃ cs, w.cells? base (a.add (i * e.size)) e.size = some cs ∧ ∃ y : e.ty, Opens w e y cs) : ∃ y : (Sh.sl e).ty, Opens w (.sl e) y [.slice (some a) len cap] := by
  rcases Nat.eq_zero_or_pos len with hz | hp
  · subst hz
    refine ⟨([] : List e.ty), ⟨Nat.zero_le _, fun x hx => by cases hx⟩, rfl, fun j c v hc hv => ?_⟩
    match j with
    | 0 => cases hc; cases hv; exact .ro0 e _ _ hm fun h => by cases h
    | j + 1 => cases hv
  · obtain ⟨b, o, spot⟩ := a
    have hb : b < w.heap.size := by
      obtain ⟨cs, h1, _⟩ := each 0 hp
      have := World.cells?_block h1 h0
      unfold Addr.add at this
      split at this <;> exact this
    have hspot : spot = none := by
      obtain ⟨cs, h1, y, _, h2, _⟩ := each 0 hp
      obtain ⟨hl, hc⟩ := opened_cells h1
      have h3 := hc 0 h0
      rw [List.getElem?_eq_getElem (by omega)] at h3
      simpa [Addr.add] using World.cell?_spot h3
    subst hspot
    have hadd : ∀ o i, (Addr.mk b o none).add i = ⟨b, o + i, none⟩ := fun o i => Addr.add_lit ..
    let f : Nat → e.ty := fun i => if h : i < len then Classical.choose (Classical.choose_spec (each i h)).2 else e.dflt
    have hf : ∀ i, i < len → ∃ cs, w.cells? base (Addr.add ⟨b, o, none⟩ (i * e.size)) e.size = some cs ∧ Opens w e (f i) cs := fun i hi => by
      refine ⟨Classical.choose (each i hi), (Classical.choose_spec (each i hi)).1, ?_⟩
      simp only [f, dif_pos hi]
      exact Classical.choose_spec (Classical.choose_spec (each i hi)).2
    have hget : ∀ (n : Nat) (x : e.ty), ((List.range len).map f)[n]? = some x → n < len ∧ x = f n := fun n x hn => by
      rw [List.getElem?_map] at hn
      rcases Nat.lt_or_ge n len with hlt | hge
      · rw [List.getElem?_range hlt] at hn; cases hn; exact ⟨hlt, rfl⟩
      · rw [List.getElem?_eq_none (by simpa using hge)] at hn; cases hn
    have hcell : ∀ (n : Nat) (x : e.ty) (j : Nat) c, ((List.range len).map f)[n]? = some x → (e.cells x)[j]? = some c → ∃ u, w.cell? ⟨b, o + n * e.size + j, none⟩ = some u ∧ Rep [] (gA w) w c u := fun n x j c hn hc => by
      obtain ⟨hlt, rfl⟩ := hget n x hn
      obtain ⟨cs, h1, _, h2, h3⟩ := hf n hlt
      obtain ⟨_, h4⟩ := opened_cells h1
      have hj : j < e.size := by rw [← Sh.cells_size e (f n)]; exact (List.getElem?_eq_some_iff.1 hc).1
      have h5 := h4 j hj
      rw [hadd, hadd] at h5
      have hcs : cs[j]? = some cs[j] := List.getElem?_eq_getElem (by omega)
      rw [hcs] at h5
      refine ⟨_, ?_, h3 j c _ hc hcs⟩
      exact h5
    have hlen : ((List.range len).map f).length = len := by simp
    refine ⟨(List.range len).map f, ⟨by show ((List.range len).map f).length ≤ _; omega, fun x hx => ?_⟩, rfl, fun j c v hc hv => ?_⟩
    · obtain ⟨n, hn⟩ := List.mem_iff_getElem?.1 (show x ∈ (List.range len).map f from hx)
      obtain ⟨hlt, rfl⟩ := hget n x hn
      obtain ⟨cs, _, h2, _⟩ := hf n hlt
      exact h2
    · match j with
      | 0 =>
        cases hc; cases hv
        have := Rep.ro1 (h := []) (g := gA w) (w := w) e ((List.range len).map f) b o cap (fun n j => (w.cell? ⟨b, o + n * e.size + j, none⟩).getD Go.undef) (by omega) (by omega) hm hb
          (fun n x j c hn hc => by obtain ⟨u, h1, _⟩ := hcell n x j c hn hc; rw [h1]; rfl)
          (fun n x j c hn hc => by obtain ⟨u, h1, h2⟩ := hcell n x j c hn hc; rw [h1]; exact h2)
        rw [hlen] at this
        exact this
      | j + 1 => cases hv

mutual
theorem open_sh : (s : Sh) → ∀ (t : TypeId) (fuel : Nat) (cs : List Value) (x : DataW H × List MemPlace), fitB P s t = true → DataW.trod enc P w base spare held fuel t cs = some x → ∃ y : s.ty, Opens w s y cs
  | .int k, t, fuel, cs, x, hf, h => by
    simp only [fitB] at hf
    split at hf
    · rename_i j hu
      have := of_decide_eq_true hf
      subst this
      obtain ⟨n, rfl, _, hw⟩ := DataW.trod_int hu h
      refine ⟨(n : Int), hw, rfl, fun i c v hc hv => ?_⟩
      match i with
      | 0 => cases hc; cases hv; exact .int _ _
      | i + 1 => cases hv
    · cases hf
  | .bool, t, fuel, cs, x, hf, h => by
    simp only [fitB] at hf
    split at hf
    · rename_i hu
      obtain ⟨b, rfl, _⟩ := DataW.trod_bool hu h
      refine ⟨b, trivial, rfl, fun i c v hc hv => ?_⟩
      match i with
      | 0 => cases hc; cases hv; exact .bool _
      | i + 1 => cases hv
    · cases hf
  | .str, t, fuel, cs, x, hf, h => by
    simp only [fitB] at hf
    split at hf
    · rename_i hu
      obtain ⟨b, rfl, _, hl⟩ := DataW.trod_string hu h
      refine ⟨b, hl, rfl, fun i c v hc hv => ?_⟩
      match i with
      | 0 => cases hc; cases hv; exact .str _
      | i + 1 => cases hv
    · cases hf
  | .recd fs, t, fuel, cs, x, hf, h => by
    simp only [fitB] at hf
    split at hf
    · rename_i l hu
      simp only [Bool.and_eq_true, decide_eq_true_eq] at hf
      obtain ⟨xs, n, _, _, hl, hx, hfl⟩ := DataW.trod_struct hu h
      obtain ⟨y, hy, hr⟩ := open_shs fs l.toList 0 n cs hf.2 (fun f hm => by
        obtain ⟨i, hi⟩ := List.mem_iff_getElem?.1 hm
        have hi' : l[i]? = some f := by simpa using hi
        have hlt : i < xs.length := by rw [hx]; exact (Array.getElem?_eq_some_iff.1 hi').1
        exact ⟨xs[i], by rw [hfl i f hi', List.getElem?_eq_getElem hlt]⟩) (by rw [hl, hf.1]; omega)
      refine ⟨y, hy, by rw [hl, hf.1]; rfl, fun j c v hc hv => hr j c v hc (by rw [Nat.zero_add]; exact hv)⟩
    · cases hf
  | .sl e, t, fuel, cs, x, hf, h => by
    simp only [fitB] at hf
    split at hf
    · rename_i u hu
      simp only [Bool.and_eq_true, decide_eq_true_eq] at hf
      obtain ⟨⟨h1, h2⟩, h3⟩ := hf
      rcases DataW.trod_slice hu h with ⟨rfl, -⟩ | ⟨a, len, cap, elems, rest, n, _, rfl, _, hb, hl, hm, hlen, hel, _, _⟩
      · refine ⟨([] : List e.ty), ⟨Nat.zero_le _, fun x hx => by cases hx⟩, rfl, fun j c v hc hv => ?_⟩
        match j with
        | 0 => cases hc; cases hv; exact .ro0 e _ _ (Nat.zero_le _) fun _ => rfl
        | j + 1 => cases hv
      · rw [h1] at hel
        refine open_row (base := base) hl hm h2 fun i hi => ?_
        have he := hel i hi
        rw [List.getElem?_eq_getElem (by omega)] at he
        obtain ⟨cs, e1, e2⟩ := Option.bind_eq_some_iff.1 he
        exact ⟨cs, e1, open_sh e u n cs _ h3 e2⟩
    · cases hf
theorem open_shs : (fs : Shs) → ∀ (l : List Field) (n0 fuel : Nat) (cs : List Value), fitsB P fs l n0 = true →
    (∀ f ∈ l, ∃ x : DataW H × List MemPlace, DataW.trod enc P w base spare held fuel f.type ((cs.drop f.offset).take (P.cellsOf f.type)) = some x) → n0 + fs.size ≤ cs.length →
    ∃ y : fs.ty, Wfs fs y ∧ ∀ (j : Nat) c v, (fs.cells y)[j]? = some c → cs[n0 + j]? = some v → Rep [] (gA w) w c v
  | .nil, l, n0, fuel, cs, hf, h, hl => ⟨(), trivial, fun j c v hc => by simp [Shs.cells] at hc⟩
  | .cons s r, [], n0, fuel, cs, hf, h, hl => by simp [fitsB] at hf
  | .cons s r, f :: q, n0, fuel, cs, hf, h, hl => by
    simp only [fitsB, Bool.and_eq_true, decide_eq_true_eq] at hf
    obtain ⟨⟨⟨h1, h2⟩, h3⟩, h4⟩ := hf
    simp only [Shs.size] at hl
    obtain ⟨x, hx⟩ := h f (by simp)
    obtain ⟨y1, w1, l1, r1⟩ := open_sh s f.type fuel _ x h3 hx
    obtain ⟨y2, w2, r2⟩ := open_shs r q (n0 + s.size) fuel cs h4 (fun f' hm => h f' (List.mem_cons_of_mem _ hm)) (by omega)
    refine ⟨(y1, y2), ⟨w1, w2⟩, fun j c v hc hv => ?_⟩
    simp only [Shs.cells] at hc
    rcases Nat.lt_or_ge j s.size with hj | hj
    · rw [List.getElem?_append_left (by rw [Sh.cells_size]; exact hj)] at hc
      refine r1 j c v hc ?_
      rw [h1, h2, List.getElem?_take, if_pos hj, List.getElem?_drop]
      exact hv
    · rw [List.getElem?_append_right (by rw [Sh.cells_size]; exact hj), Sh.cells_size] at hc
      refine r2 _ c v hc ?_
      rw [show n0 + s.size + (j - s.size) = n0 + j by omega]
      exact hv
end
end
end Go.Proofs.Ytleceelemogbcaa

/- The rows' kit: the post where below the heap's old size nothing has turned. -/
namespace Go.Proofs.Ytleceelemogbcaa
open Go.ChangeShapes Go.WideShapes Go.ChangeAt Go.RowKit

theorem own_knob : ownKnob Try.prog.godebug = none := by kernel_rfl
theorem laid_out : laidOutB Try.prog = true := by kernel_rfl

theorem post_of_below {H : Type} {enc : TypeId × Value → H} {P : Program} {f : Func} {s : ChangeSpec} {apart fresh handsOn again : Bool} {W W' : World} {args : Array Value} {v : Value} {ds gs : List (DataW H)} {before pa pv : List MemPlace}
    (hW : DataW.Whole enc P f.params.toList s.vars apart W args.toList ds gs before)
    (hres : ∀ (b : Nat) (sp : Nat → Bool) (hd : Bool), DataW.TrodAll enc P W' b sp hd f.resultTypes.toList (v.resultList f.resultTypes.size) (s.fn H (ds ++ gs)).results [])
    (hargs : ∀ sp : Nat → Bool, (∀ p ∈ before, sp p.block = true) → DataW.TrodAll enc P W' 0 sp true f.params.toList args.toList (s.fn H (ds ++ gs)).args pa)
    (hvars : ∀ sp : Nat → Bool, (∀ p ∈ before, sp p.block = true) → DataW.TrodVars enc P W' sp s.vars (s.fn H (ds ++ gs)).vars pv)
    (hps : before = pa ++ pv) (hb : Below W.heap.size W W')
    (hok : ∀ (j : Nat) (t : TypeId) (r : Value), f.resultTypes[j]? = some t → (v.resultList f.resultTypes.size)[j]? = some r → Value.okWide P W' .any 0 t r) :
    s.post enc P f apart fresh handsOn again W args v W' := by
  have hold : ∀ p ∈ before, (fun b => decide (b < W.heap.size)) p.block = true := fun p hp => by simpa using hW.lt p hp
  have hlt := hW.lt
  refine ⟨ds, gs, before, [], pa, pv, hW, hres _ _ _, hargs _ hold, hvars _ hold, hb.frame _, fun _ => ?_⟩
  obtain ⟨_, _, _, _, _, hz, hn⟩ := hW
  refine ⟨hok, _, _, ([] ++ pa) ++ pv, ⟨[] ++ pa, pv, trodAll_append (hargs _ (fun _ _ => rfl)) (hres _ _ _), hvars _ (fun _ _ => rfl), rfl, ?_, ?_⟩, ?_⟩
  · intro b off hp
    have hm : MemPlace.cell b off ∈ before := by rw [hps]; simpa using hp
    rw [hb.frozen (p := ⟨b, off, none⟩) (hlt _ hm)]
    exact hz b off hm
  · intro ha
    have := hn ha
    rw [hps] at this
    simpa using this
  · intro p hp _
    rw [hps]
    simpa using hp
end Go.Proofs.Ytleceelemogbcaa

/- A law: its arguments opened, its answer, what it leaves. -/
namespace Go.Proofs.Ytleceelemogbcaa
open Go.RowKit Go.ChangeShapes Go.WideShapes Go.ChangeAt

def Shs.vals : (fs : Shs) → fs.ty → List AVal
  | .nil, _ => []
  | .cons s r, x => s.val x.1 :: r.vals x.2

def fitsT (P : Program) : Shs → List TypeId → Bool
  | .nil, [] => true
  | .cons s r, t :: q => fitB P s t && (P.readableRec t && decide (t < P.types.size)) && fitsT P r q
  | _, _ => false

section
variable {P : Program} {H : Type} {enc : TypeId × Value → H} {w : World} {base : Nat} {spare : Nat → Bool} {held : Bool}

theorem open_arg {s : Sh} {t : TypeId} {v : Value} {d : DataW H} {ps : List MemPlace} {r : Reach} {b0 : Nat} (hf : fitB P s t = true) (hv : Value.okWide P w r b0 t v) (h : DataW.Trod enc P w base spare held t v d ps) :
    ∃ y : s.ty, Wf s y ∧ Rep [] (gA w) w (s.val y) v := by
  obtain ⟨fuel, h⟩ := h
  obtain ⟨y, h1, h2, h3⟩ := open_sh s t fuel _ _ hf h
  refine ⟨y, h1, ?_⟩
  have one : (∀ a, v ≠ .agg a) → s.cells y = [s.val y] → Rep [] (gA w) w (s.val y) v := fun hn hc => by
    have hcv : v.cells.toList = [v] := by cases v <;> first | rfl | exact absurd rfl (hn _)
    exact h3 0 _ v (by rw [hc]; rfl) (by rw [hcv]; rfl)
  cases s with
  | recd fs =>
    simp only [fitB] at hf
    split at hf
    · rename_i l hu
      simp only [Value.okWide, hu] at hv
      obtain ⟨cs, rfl, _⟩ := hv
      refine .agg _ _ ((Sh.cells_size (.recd fs) y).trans (by simpa [Value.cells] using h2.symm)) fun j c x hc hx => h3 j c x hc (by simpa [Value.cells] using hx)
    · cases hf
  | int k =>
    refine one (fun a e => ?_) rfl
    subst e
    simp only [fitB] at hf
    split at hf
    · rename_i j hu
      simp [Value.okWide, hu, Cell.okWide, Cell.ok] at hv
    · cases hf
  | bool =>
    refine one (fun a e => ?_) rfl
    subst e
    simp only [fitB] at hf
    split at hf
    · rename_i hu
      simp [Value.okWide, hu, Cell.okWide, Cell.ok] at hv
    · cases hf
  | str =>
    refine one (fun a e => ?_) rfl
    subst e
    simp only [fitB] at hf
    split at hf
    · rename_i hu
      simp [Value.okWide, hu, Cell.okWide, Cell.ok] at hv
    · cases hf
  | sl e0 =>
    refine one (fun a e => ?_) rfl
    subst e
    simp only [fitB] at hf
    split at hf
    · rename_i u hu
      simp [Value.okWide, hu, Cell.okWide, Cell.ok] at hv
    · cases hf

theorem open_all {r : Reach} {b0 : Nat} : ∀ (ss : Shs) (ts : List TypeId) (vs : List Value) (ds : List (DataW H)) (ps : List MemPlace), fitsT P ss ts = true → DataW.TrodAll enc P w base spare held ts vs ds ps →
    (∀ (j : Nat) t v, ts[j]? = some t → vs[j]? = some v → Value.okWide P w r b0 t v) →
    ∃ ys : ss.ty, Wfs ss ys ∧ (ss.vals ys).length = vs.length ∧ ds.length = ts.length ∧ ∀ (j : Nat) c v, (ss.vals ys)[j]? = some c → vs[j]? = some v → Rep [] (gA w) w c v
  | .nil, [], vs, ds, ps, hf, h, hv => by
    obtain ⟨rfl, rfl, rfl⟩ := trodAll_nil h
    exact ⟨(), trivial, rfl, rfl, fun j c v hc => by simp [Shs.vals] at hc⟩
  | .cons s q, [], vs, ds, ps, hf, h, hv => by simp [fitsT] at hf
  | .nil, _ :: _, vs, ds, ps, hf, h, hv => by simp [fitsT] at hf
  | .cons s q, t :: ts, vs, ds, ps, hf, h, hv => by
    simp only [fitsT, Bool.and_eq_true] at hf
    obtain ⟨v, vs', d, ds', p1, p2, rfl, rfl, rfl, h1, h2⟩ := trodAll_cons h
    obtain ⟨y, a1, a2⟩ := open_arg hf.1.1 (hv 0 t v rfl rfl) h1
    obtain ⟨ys, b1, b2, b3, b4⟩ := open_all q ts vs' ds' p2 hf.2 h2 fun j t v ht hv' => hv (j + 1) t v (by simpa using ht) (by simpa using hv')
    refine ⟨(y, ys), ⟨a1, b1⟩, by simp [Shs.vals, b2], by simp [b3], fun j c v hc hv' => ?_⟩
    cases j with
    | zero =>
      simp only [Shs.vals, List.getElem?_cons_zero, Option.some.injEq] at hc hv'
      subst hc; subst hv'; exact a2
    | succ j => exact b4 j c v (by simpa [Shs.vals] using hc) (by simpa using hv')

theorem all_stays (hl : laidOutB P = true) {W W' : World} {sp' : Nat → Bool} : ∀ (ss : Shs) (ts : List TypeId) (vs : List Value) (ds : List (DataW H)) (ps : List MemPlace), fitsT P ss ts = true → DataW.TrodAll enc P W base (fun _ => true) true ts vs ds ps →
    (∀ p ∈ ps, W.sameAt W' p) → (∀ p ∈ ps, sp' p.block = true) → DataW.TrodAll enc P W' base sp' true ts vs ds ps
  | .nil, [], vs, ds, ps, hf, h, _, _ => by
    obtain ⟨rfl, rfl, rfl⟩ := trodAll_nil h
    rfl
  | .cons s q, [], vs, ds, ps, hf, h, _, _ => by simp [fitsT] at hf
  | .nil, _ :: _, vs, ds, ps, hf, h, _, _ => by simp [fitsT] at hf
  | .cons s q, t :: ts, vs, ds, ps, hf, h, h1, h2 => by
    simp only [fitsT, Bool.and_eq_true, decide_eq_true_eq] at hf
    obtain ⟨v, vs', d, ds', p1, p2, rfl, rfl, rfl, a1, a2⟩ := trodAll_cons h
    exact ⟨p1, p2, WideElems.Trod_stays hl hf.1.2.1 hf.1.2.2 a1 (fun p hp => h1 p (by simp [hp])) (fun p hp => h2 p (by simp [hp])),
      all_stays hl q ts vs' ds' p2 hf.2 a2 (fun p hp => h1 p (by simp [hp])) (fun p hp => h2 p (by simp [hp])), rfl⟩

/-- A law that answers true: what the row asks. -/
theorem law_post {F : List AVal → Option AOut} {fid : FuncId} {fn : Func} {s : ChangeSpec} {apart fresh handsOn again : Bool} (hF : FspOk P fid (toFsp F)) (hl : laidOutB P = true) (ss : Shs) (hfit : fitsT P ss fn.params.toList = true) (hnv : s.vars = [])
    {tb : TypeId} (hres : fn.resultTypes = #[tb]) (hb : P.underlying tb = some .bool) (hlaw : ∀ ys : ss.ty, Wfs ss ys → F (ss.vals ys) = some (.ret (.bool true)))
    (hfn : ∀ ds : List (DataW H), ds.length = fn.params.toList.length → (s.fn H ds).results = [.lit (.bool true)] ∧ (s.fn H ds).args = ds ∧ (s.fn H ds).vars = [])
    {W : World} {b0 : Nat} {args : Array Value} {ds gs : List (DataW H)} {before : List MemPlace}
    (hval : ∀ (j : Nat) t v, fn.params[j]? = some t → args[j]? = some v → Value.okWide P W .any b0 t v) (hW : DataW.Whole enc P fn.params.toList s.vars apart W args.toList ds gs before) :
    Calls P fid args W fun e W' => ∃ v, e = .returned v ∧ s.post enc P fn apart fresh handsOn again W args v W' := by
  have hW' := hW
  obtain ⟨p, q, hA, hV, rfl, hfz, hnd⟩ := hW
  rw [hnv] at hV
  obtain ⟨rfl, rfl⟩ := trodVars_none hV
  obtain ⟨ys, h1, h2, h3, h4⟩ := open_all ss _ _ _ _ hfit hA fun j t v ht hv => hval j t v (by simpa using ht) (by simpa using hv)
  have hcall := hF.calls (ss.vals ys) (.ret (.bool true)) (by unfold toFsp; rw [hlaw ys h1]) (fun b => b < W.heap.size) W args (fun b hb => hb) (by simpa using h2) fun j c x hc hx => h4 j c x hc (by simpa using hx)
  refine hcall.mono fun e W' hp => ?_
  obtain ⟨M', _, _, _, hbl, x, rfl, hr⟩ := hp
  have := rep_bool hr
  subst this
  obtain ⟨f1, f2, f3⟩ := hfn ds h3
  have hlt : ∀ x ∈ p, x.block < W.heap.size := fun x hx => hW'.lt x (by simpa using hx)
  refine ⟨_, rfl, post_of_below (pa := p ++ []) (pv := []) hW' (fun b sp hd => ?_) (fun sp hsp => ?_) (fun sp hsp => ?_) (by simp) hbl (ok_one hres rfl (okWide_bool_mk hb _))⟩
  · rw [List.append_nil, f1, hres]
    exact trodAll_mk1 (shut_bool hb _)
  · rw [List.append_nil, f2, List.append_nil]
    exact all_stays hl ss _ _ _ _ hfit hA (fun x hx => hbl.same (hlt x hx)) fun x hx => hsp x (by simpa using hx)
  · rw [List.append_nil, f3, hnv]
    rfl
end
end Go.Proofs.Ytleceelemogbcaa

/- SkillBetween: its text, and that it answers true. -/
namespace Go.Proofs.Ytleceelemogbcaa
open Go.RowKit Go.ChangeShapes Go.WideShapes Go.ChangeAt

section
variable {α : Type} (N : Nat)
def inLoop (n : Nat) (ys : List Int) (K : List Bool → Option α) : Option α :=
  afterL (iterL N (fun x : Int × List Bool × Unit =>
      bif decide (x.1 < (ys.length : Int)) then
        if 0 ≤ x.1 ∧ x.1 < (ys.length : Int) then
          if 0 ≤ ys.getD x.1.toNat (Int.ofNat 0) ∧ ys.getD x.1.toNat (Int.ofNat 0) < (x.2.1.length : Int) then
            some (LRes.cont (IntKind.i64.wrap (x.1 + 1), x.2.1.set (ys.getD x.1.toNat (Int.ofNat 0)).toNat true, ()))
          else none
        else none
      else some (LRes.brk 0 (x.1, x.2.1, ()))) (0, List.replicate (n : Int).toNat false, ()))
    fun id y => if id = 0 then K y.2.1 else none
def cntLoop (vs : List Int) (bs : List Bool) (K : Int → Int → List Int → Option α) : Option α :=
  afterL (iterL N (fun x : Int × Int × List Int × Int × Unit =>
      bif decide (x.2.2.2.1 < (vs.length : Int)) then
        if 0 ≤ x.2.2.2.1 ∧ x.2.2.2.1 < (vs.length : Int) then
          if 0 ≤ x.2.2.2.1 ∧ x.2.2.2.1 < (bs.length : Int) then
            bif bs.getD x.2.2.2.1.toNat false then
              some (LRes.cont (IntKind.i64.wrap (x.1 + vs.getD x.2.2.2.1.toNat (Int.ofNat 0)), IntKind.i64.wrap (x.2.1 + vs.getD x.2.2.2.1.toNat (Int.ofNat 0)), x.2.2.1, IntKind.i64.wrap (x.2.2.2.1 + 1), ()))
            else
              if (x.2.2.1.length + [x.2.2.2.1].length) * 8 ≤ room then
                some (LRes.cont (IntKind.i64.wrap (x.1 + vs.getD x.2.2.2.1.toNat (Int.ofNat 0)), x.2.1, x.2.2.1 ++ [x.2.2.2.1], IntKind.i64.wrap (x.2.2.2.1 + 1), ()))
              else none
          else none
        else none
      else some (LRes.brk 2 (x.1, x.2.1, x.2.2.1, x.2.2.2.1, ()))) (0, 0, [], 0, ()))
    fun id y => if id = 2 then K y.1 y.2.1 y.2.2.1 else none
def dot4Loop (vs ls : List Int) (K : Int → Option α) : Option α :=
  afterL (iterL N (fun x : Int × Int × Unit =>
      bif decide (x.2.1 < (vs.length : Int)) then
        if 0 ≤ x.2.1 ∧ x.2.1 < (vs.length : Int) then
          if 0 ≤ x.2.1 ∧ x.2.1 < (ls.length : Int) then
            some (LRes.cont (IntKind.i64.wrap (x.1 + IntKind.i64.wrap (vs.getD x.2.1.toNat (Int.ofNat 0) * ls.getD x.2.1.toNat (Int.ofNat 0))), IntKind.i64.wrap (x.2.1 + 1), ()))
          else none
        else none
      else some (LRes.brk 4 (x.1, x.2.1, ()))) (0, 0, ()))
    fun id y => if id = 4 then K y.1 else none
end

def tB (b : Bool) : AOut := .ret (.bool b)
def dbt (d : Int) : Int := IntKind.i64.wrap (1 + (IntKind.i64.wrap d).tmod 100)

theorem between_enter (args : Array Value) (w : World) : (callFunc 4 args).run Try.prog w = .ok (.enter 4 args) w := by kernel_rfl
set_option maxRecDepth 100000 in
theorem between_text (N : Nat) (α : Type) (xs ys ls : List Int) (d : Int) (os : List Int) (k : AOut → Option α) : evFn real tab (envF env14) N Try.f4 α [.ro (.int .i64) xs, .ro (.int .i64) ys, .ro (.int .i64) ls, .int .u8 d, .ro (.int .u8) os] k =
    bif [xs, ys].any longB then k (tB true)
    else
      bif decide ((ls.length : Int) > 60) then k (tB true)
      else
        bif decide ((os.length : Int) > 200) then k (tB true)
        else
          bif chE xs ys (dbt d) != 0 then
            bif chL xs ys (dbt d) == 0 && (chD xs ys (dbt d) == 0 && true) then k (tB (chH xs ys (dbt d) == 0 && (chD xs ys (dbt d) == 0 && true)))
            else k (tB false)
          else
            bif moreB xs (dbt d) os then
              if 0 ≤ (xs.length : Int) ∧ (xs.length : Int) ≤ (xs.length : Int) ∧ (xs.length : Int) * ((1 : Nat) : Int) ≤ (room : Int) then
                inLoop N xs.length ys fun bs =>
                  cntLoop N (moreSt xs os (dbt d).toNat) bs fun n m oth =>
                    bif chE xs oth (dbt d) != 0 then k (tB false)
                    else bif chD xs ys (dbt d) != n then k (tB false)
                    else bif chD xs ys (dbt d) != n then k (tB false)
                    else bif decide (m < chL xs ys (dbt d)) then k (tB false)
                    else bif decide (m > chH xs ys (dbt d)) then k (tB false)
                    else bif IntKind.i64.wrap (chL xs ys (dbt d) + chH xs oth (dbt d)) != n then k (tB false)
                    else bif IntKind.i64.wrap (chH xs ys (dbt d) + chL xs oth (dbt d)) != n then k (tB false)
                    else
                      bif mnE xs ls (dbt d) != 0 then
                        bif mnLo xs ls (dbt d) == 0 then k (tB (mnHi xs ls (dbt d) == 0))
                        else k (tB false)
                      else
                        dot4Loop N (moreSt xs os (dbt d).toNat) ls fun t =>
                          bif decide (IntKind.i64.wrap (mnLo xs ls (dbt d) * n) ≤ t) then k (tB (decide (t ≤ IntKind.i64.wrap (mnHi xs ls (dbt d) * n))))
                          else k (tB false)
              else none
            else none := by kernel_rfl
end Go.Proofs.Ytleceelemogbcaa

/- SkillBetween answers true. -/
namespace Go.Proofs.Ytleceelemogbcaa
open Go.RowKit Go.ChangeShapes Go.WideShapes Go.ChangeAt

theorem ml : maxLen = 9223372036854775807 := rfl
def insL (n : Nat) (ys : List Int) : List Bool := ys.foldl (fun l y => l.set y.toNat true) (List.replicate n false)
theorem ins_len' (n : Nat) : ∀ (ys : List Int) (l : List Bool), l.length = n → (ys.foldl (fun l y => l.set y.toNat true) l).length = n
  | [], _, h => h
  | y :: r, l, h => by rw [List.foldl_cons]; exact ins_len' n r _ (by simp [h])
theorem ins_len (n : Nat) (ys : List Int) : (insL n ys).length = n := ins_len' n ys _ (by simp)
theorem ins_at {n : Nat} {ys : List Int} (h : ∀ y ∈ ys, 0 ≤ y ∧ y < n) (j : Nat) (hj : j < n) : (insL n ys).getD j false = isIn ys j := by
  revert h
  refine list_snoc (P := fun ys => (∀ y ∈ ys, 0 ≤ y ∧ y < n) → (insL n ys).getD j false = isIn ys j) (fun _ => ?_) (fun l y ih h => ?_) ys
  · simp [insL, isIn, List.getD_eq_getElem?_getD, List.getElem?_replicate, hj]
  · have ih := ih fun z hz => h z (by simp [hz])
    have hy := h y (by simp)
    have e : insL n (l ++ [y]) = (insL n l).set y.toNat true := by simp [insL]
    have hl := ins_len n l
    rw [e]
    by_cases hq : y.toNat = j
    · subst hq
      rw [List.getD_eq_getElem?_getD, List.getElem?_set_self (by omega)]
      have : (y.toNat : Int) = y := by omega
      simp [isIn, this]
    · rw [List.getD_eq_getElem?_getD, List.getElem?_set_ne hq, ← List.getD_eq_getElem?_getD, ih]
      have : ¬ ((j : Int) = y) := by omega
      simp [isIn, this]

section
variable {α : Type} {N : Nat}
theorem in_plain {n : Nat} {ys : List Int} (h : ∀ y ∈ ys, 0 ≤ y ∧ y < n) (hl : ys.length ≤ maxLen) (hN : ys.length < N) (K : List Bool → Option α) : inLoop N n ys K = K (insL n ys) := by
  unfold inLoop
  generalize hf : (fun x : Int × List Bool × Unit => (_ : Option (LRes (Int × List Bool × Unit) α))) = f
  have e : iterL N f (0, List.replicate (n : Int).toNat false, ()) = some (.brk 0 ((ys.length : Int), insL n ys, ())) := by
    refine iterL_count (f := f) (fun i : Nat => ((i : Int), insL n (ys.take i), ())) (fun y e => by cases e) ys.length (fun i hi => ?_) ?_ 0 (Nat.zero_le _) N (by omega)
    · rw [← hf]
      have h1 : decide ((i : Int) < (ys.length : Int)) = true := decide_eq_true (by omega)
      have h2 : IntKind.i64.wrap ((i : Int) + 1) = ((i + 1 : Nat) : Int) := wrap_small (n := i + 1) (by omega)
      have h3 := h _ (List.getElem_mem hi)
      have h4 : ys.getD i 0 = ys[i] := by rw [List.getD_eq_getElem?_getD, List.getElem?_eq_getElem hi]; rfl
      rw [← h4] at h3
      simp only [h1, cond_true, h2, show Int.ofNat 0 = 0 from rfl, show ((i : Int)).toNat = i from rfl]
      rw [if_pos ⟨by omega, by omega⟩, if_pos (by rw [ins_len]; exact h3)]
      unfold insL
      rw [take_fold _ _ _ _ hi]
    · rw [← hf]
      have h1 : decide ((ys.length : Int) < (ys.length : Int)) = false := decide_eq_false (by omega)
      simp only [h1, cond_false, List.take_length]
  rw [e]
  rfl

theorem cnt_plain {vs : List Int} {bs : List Bool} {p : Nat → Bool} (hn : vs.length ≤ 49) (hb : bs.length = vs.length) (hp : ∀ i, i < vs.length → bs.getD i false = p i) (hv : ∀ i, 0 ≤ vs.getD i 0 ∧ vs.getD i 0 ≤ 1000100) (hN : vs.length < N) (K : Int → Int → List Int → Option α) :
    cntLoop N vs bs K = K (SP (at0 vs) (fun _ => true) vs.length) (SP (at0 vs) p vs.length) (others p vs.length) := by
  unfold cntLoop
  generalize hf : (fun x : Int × Int × List Int × Int × Unit => (_ : Option (LRes (Int × Int × List Int × Int × Unit) α))) = f
  have e : iterL N f (0, 0, [], 0, ()) = some (.brk 2 (SP (at0 vs) (fun _ => true) vs.length, SP (at0 vs) p vs.length, others p vs.length, (vs.length : Int), ())) := by
    refine iterL_count (f := f) (fun i : Nat => (SP (at0 vs) (fun _ => true) i, SP (at0 vs) p i, others p i, (i : Int), ())) (fun y e => by cases e) vs.length (fun i hi => ?_) ?_ 0 (Nat.zero_le _) N (by omega)
    · rw [← hf]
      have h1 : decide ((i : Int) < (vs.length : Int)) = true := decide_eq_true (by omega)
      have h2 : IntKind.i64.wrap ((i : Int) + 1) = ((i + 1 : Nat) : Int) := wrap_small (n := i + 1) (by have := ml; omega)
      have a1 := SP_in (f := at0 vs) (p := fun _ => true) (B := 1000100) hv i
      have a2 := SP_in (f := at0 vs) (p := p) (B := 1000100) hv i
      have a3 := hv i
      have hol : (others p i).length ≤ i := by
        have := ev_cnt (others_ev p i)
        have b := SP_in (f := fun _ => 1) (p := isIn (others p i)) (B := 1) (fun _ => by omega) i
        omega
      have w1 : IntKind.i64.wrap (SP (at0 vs) (fun _ => true) i + vs.getD i 0) = SP (at0 vs) (fun _ => true) (i + 1) := by rw [i64_w _ (by omega)]; rfl
      simp only [h1, cond_true, h2, show Int.ofNat 0 = 0 from rfl, show ((i : Int)).toNat = i from rfl, w1, hp i hi]
      rw [if_pos ⟨by omega, by omega⟩, if_pos ⟨by omega, by omega⟩]
      simp only [SP, others]
      cases p i
      · have hroom : room ≥ 1000 := by decide
        simp only [cond_false, List.length_singleton]
        rw [if_pos (by omega)]
        simp only [Int.add_zero]
      · simp only [cond_true]
        rw [i64_w _ (by omega)]
    · rw [← hf]
      have h1 : decide ((vs.length : Int) < (vs.length : Int)) = false := decide_eq_false (by omega)
      simp only [h1, cond_false]
  rw [e]
  rfl

theorem dot4_plain {vs ls : List Int} (he : ls.length = vs.length) (hl : vs.length ≤ maxLen) (hN : vs.length < N) (K : Int → Option α) : dot4Loop N vs ls K = K (dotA vs ls 0 vs.length) := by
  unfold dot4Loop
  generalize hf : (fun x : Int × Int × Unit => (_ : Option (LRes (Int × Int × Unit) α))) = f
  have e : iterL N f (0, 0, ()) = some (.brk 4 (dotA vs ls 0 vs.length, (vs.length : Int), ())) := by
    refine iterL_count (f := f) (fun i : Nat => (dotA vs ls 0 i, (i : Int), ())) (fun y e => by cases e) vs.length (fun i hi => ?_) ?_ 0 (Nat.zero_le _) N (by omega)
    · rw [← hf]
      have h1 : decide ((i : Int) < (vs.length : Int)) = true := decide_eq_true (by omega)
      have h2 : IntKind.i64.wrap ((i : Int) + 1) = ((i + 1 : Nat) : Int) := wrap_small (n := i + 1) (by omega)
      simp only [h1, cond_true, h2]
      rw [if_pos ⟨by omega, by omega⟩, if_pos ⟨by omega, by omega⟩]
      rfl
    · rw [← hf]
      have h1 : decide ((vs.length : Int) < (vs.length : Int)) = false := decide_eq_false (by omega)
      simp only [h1, cond_false]
  rw [e]
  rfl
end

theorem preS_SP (xs : List Int) : ∀ n, preS xs n = SP (at0 xs) (fun _ => true) n
  | 0 => rfl
  | n + 1 => by simp only [preS, SP, preS_SP xs n, cond_true]
theorem sumW_SP {xs : List Int} (hc : cntB xs = true) : sumW xs = SP (at0 xs) (fun _ => true) xs.length := by
  have h0 := sumW_cnt hc 0
  have h1 := sm_drop xs xs.length (Nat.le_refl _)
  rw [List.drop_zero] at h0
  rw [List.drop_length] at h1
  simp only [sm] at h1
  rw [h0, ← preS_SP]
  omega

/-- What is said of sums. -/
structure Parts (xs ys os : List Int) (s : Int) (p : Nat → Bool) (T M : Int) : Prop where
  evo : chnB xs (others p xs.length) s = true
  den : chD xs ys s = T
  low : chL xs ys s ≤ M
  high : M ≤ chH xs ys s
  one : chL xs ys s + chH xs (others p xs.length) s = T
  two : chH xs ys s + chL xs (others p xs.length) s = T
  tin : 1 ≤ T ∧ T ≤ 49001000

theorem parts_of {xs ys os : List Int} {s : Int} (hc : chnB xs ys s = true) (hm : moreOk xs s os) : Parts xs ys os s (isIn ys) (SP (at0 (moreSt xs os s.toNat)) (fun _ => true) xs.length) (SP (at0 (moreSt xs os s.toNat)) (isIn ys) xs.length) := by
  have hc' := hc
  simp only [chnB, Bool.and_eq_true] at hc'
  obtain ⟨h1, h2, h3⟩ := hc'
  have hl := cnt_len h1
  have hn : 1 ≤ xs.length ∧ xs.length ≤ 49 := by omega
  have hs := inB_iff.1 h3
  have ev := ev_of hn h2
  have ev2 := others_ev (isIn ys) xs.length
  have hco : chnB xs (others (isIn ys) xs.length) s = true := by
    simp only [chnB, h1, h3, of_ev hn ev2, Bool.and_self]
  have hin2 : SP (fun _ => 1) (isIn (others (isIn ys) xs.length)) xs.length = SP (fun _ => 1) (fun i => !isIn ys i) xs.length := SP_congr _ fun i hi => ⟨others_in _ _ i hi, fun _ => rfl⟩
  have c1 := ev_cnt ev
  have c2 := ev_cnt ev2
  rw [hin2] at c2
  have c3 := SP_not (fun _ => 1) (isIn ys) xs.length
  rw [SP_one] at c3
  have b1 := SP_in (f := fun _ => 1) (p := isIn ys) (B := 1) (fun _ => by omega) xs.length
  have b2 := SP_in (f := fun _ => 1) (p := fun i => !isIn ys i) (B := 1) (fun _ => by omega) xs.length
  have s1 : evS xs ys = SP (at0 xs) (isIn ys) xs.length := (evS_sum h1 (by omega)).trans (sum_event _ _ _ ev)
  have s2 : evS xs (others (isIn ys) xs.length) = SP (at0 xs) (fun i => !isIn ys i) xs.length := (evS_sum h1 (by omega)).trans ((sum_event _ _ _ ev2).trans (SP_congr _ fun i hi => ⟨others_in _ _ i hi, fun _ => rfl⟩))
  have s3 := SP_not (at0 xs) (isIn ys) xs.length
  have hx : ∀ i, 0 ≤ at0 xs i ∧ at0 xs i ≤ 1000000 := cnt_at h1
  have i1 := SP_in (p := isIn ys) hx xs.length
  have i2 := SP_in (p := fun i => !isIn ys i) hx xs.length
  have i3 := SP_in (p := fun _ => true) hx xs.length
  have mi := more_is h1 hm s.toNat (Nat.le_refl _)
  have m1 := mi.sum (fun _ => true)
  have m2 := mi.sum (isIn ys)
  rw [came_all] at m1
  have m3 := came_in (isIn ys) xs os s.toNat
  have hden : denC xs s = SP (at0 (moreSt xs os s.toNat)) (fun _ => true) xs.length := by
    unfold denC
    rw [sumW_SP h1, i64_w _ (by omega), m1]; omega
  -- all, none
  have full : (ys.length : Int) = xs.length → SP (at0 (moreSt xs os s.toNat)) (isIn ys) xs.length = SP (at0 (moreSt xs os s.toNat)) (fun _ => true) xs.length := fun h => SP_congr _ fun i hi => ⟨SP_full _ (by omega) i hi, fun _ => rfl⟩
  have none' : (ys.length : Int) = 0 → SP (at0 (moreSt xs os s.toNat)) (isIn ys) xs.length = 0 := fun h => by
    rw [← SP_none (at0 (moreSt xs os s.toNat)) xs.length]
    exact SP_congr _ fun i hi => ⟨SP_empty (p := isIn ys) xs.length (by omega) i hi, fun h => by rw [SP_empty (p := isIn ys) xs.length (by omega) i hi] at h⟩
  have w1 : IntKind.i64.wrap (evS xs ys + s) = evS xs ys + s := i64_w _ (by omega)
  have w2 : IntKind.i64.wrap (evS xs (others (isIn ys) xs.length) + s) = evS xs (others (isIn ys) xs.length) + s := i64_w _ (by omega)
  have t := den_in h1 h3
  refine ⟨hco, ?_, ?_, ?_, ?_, ?_, ?_⟩
  · simp only [chD, hc, cond_true]; exact hden
  · simp only [chL, hc, cond_true, lowC]
    by_cases hf : (ys.length : Int) = xs.length
    · rw [beq_iff_eq.2 hf, cond_true, hden, full hf]; exact Int.le_refl _
    · rw [beq_eq_false_iff_ne.2 hf, cond_false]; omega
  · simp only [chH, hc, cond_true, highD]
    by_cases hf : (ys.length : Int) = 0
    · rw [beq_iff_eq.2 hf, cond_true, none' hf]; exact Int.le_refl _
    · rw [beq_eq_false_iff_ne.2 hf, cond_false, w1]; omega
  · simp only [chL, chH, hc, hco, cond_true, highD, lowC]
    by_cases hf : (ys.length : Int) = xs.length
    · rw [beq_iff_eq.2 hf, beq_iff_eq.2 (show ((others (isIn ys) xs.length).length : Int) = 0 by omega), cond_true, cond_true]; omega
    · rw [beq_eq_false_iff_ne.2 hf, beq_eq_false_iff_ne.2 (show ((others (isIn ys) xs.length).length : Int) ≠ 0 by omega), cond_false, cond_false, w2]; omega
  · simp only [chL, chH, hc, hco, cond_true, highD, lowC]
    by_cases hf : (ys.length : Int) = 0
    · rw [beq_iff_eq.2 hf, beq_iff_eq.2 (show ((others (isIn ys) xs.length).length : Int) = xs.length by omega), cond_true, cond_true]; omega
    · rw [beq_eq_false_iff_ne.2 hf, beq_eq_false_iff_ne.2 (show ((others (isIn ys) xs.length).length : Int) ≠ xs.length by omega), cond_false, cond_false, w1]; omega
  · rw [← hden]; exact t

theorem mean_parts {xs ls os : List Int} {s T : Int} (hb : meanB xs ls s = true) (hs : s ≤ 100) (hm : moreOk xs s os) (hT : denC xs s = T) :
    IntKind.i64.wrap (mnLo xs ls s * T) ≤ dotA (moreSt xs os s.toNat) ls 0 xs.length ∧ dotA (moreSt xs os s.toNat) ls 0 xs.length ≤ IntKind.i64.wrap (mnHi xs ls s * T) := by
  have hb' := hb
  simp only [meanB, Bool.and_eq_true] at hb'
  obtain ⟨h1, h2, h3⟩ := hb'
  have hl := cnt_len h1
  have hs' := inB_iff.1 h3
  have t := den_in h1 h3
  rw [hT] at t
  have hlen : ls.length = xs.length := by
    have := h2
    unfold valsB at this
    simp only [Bool.and_eq_true, beq_iff_eq] at this
    omega
  have bL := tot_in h1 h2 h3 (mnL_in h2)
  have bH := tot_in h1 h2 h3 (mxL_in h2)
  have eL : totL xs ls s = s * mnL ls + dotE xs ls xs.length := by
    unfold totL
    rw [dotA_eq, i64_w _ (by omega)]
  have eH : totH xs ls s = s * mxL ls + dotE xs ls xs.length := by
    unfold totH
    rw [dotA_eq, i64_w _ (by omega)]
  have hmn : ∀ j, j < xs.length → mnL ls ≤ ls.getD j 0 ∧ ls.getD j 0 ≤ mxL ls := fun j hj => by
    have key : ∀ (l : List Int) (a : Int), (l.foldl mnG a ≤ a ∧ a ≤ l.foldl mxG a) ∧ ∀ x ∈ l, l.foldl mnG a ≤ x ∧ x ≤ l.foldl mxG a := fun l => by
      induction l with
      | nil => intro a; simp
      | cons y r ih =>
        intro a
        rw [List.foldl_cons, List.foldl_cons]
        obtain ⟨⟨i1, _⟩, i2⟩ := ih (mnG a y)
        obtain ⟨⟨_, j1⟩, j2⟩ := ih (mxG a y)
        have g1 : mnG a y ≤ a ∧ mnG a y ≤ y := by unfold mnG; split <;> omega
        have g2 : a ≤ mxG a y ∧ y ≤ mxG a y := by unfold mxG; split <;> omega
        refine ⟨⟨by omega, by omega⟩, fun x hx => ?_⟩
        rcases List.mem_cons.1 hx with rfl | hx
        · omega
        · exact ⟨(i2 x hx).1, (j2 x hx).2⟩
    have hj' : j < ls.length := by omega
    have := (key ls (ls.getD 0 0)).2 _ (List.getElem_mem hj')
    have h4 : ls.getD j 0 = ls[j] := by rw [List.getD_eq_getElem?_getD, List.getElem?_eq_getElem hj']; rfl
    rw [h4]; exact this
  have md := more_dot h1 hm hmn s.toNat (Nat.le_refl _)
  rw [show ((s.toNat : Nat) : Int) = s by omega, ← Int.add_comm (s * mnL ls), ← Int.add_comm (s * mxL ls), ← eL, ← eH] at md
  have ed : dotA (moreSt xs os s.toNat) ls 0 xs.length = dotE (moreSt xs os s.toNat) ls xs.length := by
    have := dotA_eq (moreSt xs os s.toNat) ls 0 xs.length
    rw [i64_w 0 (by omega)] at this
    rw [this, i64_w _ (by omega)]
    omega
  rw [ed]
  simp only [mnLo, mnHi, hb, cond_true, rnd1, rnd2, hT]
  have q1 := Int.emod_add_mul_ediv (totL xs ls s) T
  have q2 := Int.emod_nonneg (totL xs ls s) (show T ≠ 0 by omega)
  have q3 := Int.emod_lt_of_pos (totL xs ls s) (show 0 < T by omega)
  have r1 := Int.emod_add_mul_ediv (-(totH xs ls s)) T
  have r2 := Int.emod_nonneg (-(totH xs ls s)) (show T ≠ 0 by omega)
  have r3 := Int.emod_lt_of_pos (-(totH xs ls s)) (show 0 < T by omega)
  rw [Int.neg_mul, Int.mul_comm _ T, Int.mul_comm _ T]
  generalize T * (totL xs ls s / T) = A at *
  generalize T * (-(totH xs ls s) / T) = B at *
  rw [i64_w _ (by omega), i64_w _ (by omega)]
  omega

theorem between_true {α : Type} (xs ys ls os : List Int) (d : Int) (hd : 0 ≤ d ∧ d ≤ 255) (ho : os.all (fun o => decide (0 ≤ o) && decide (o ≤ 255)) = true) (k : AOut → Option α) :
    evFn real tab (envF env14) 100 Try.f4 α [.ro (.int .i64) xs, .ro (.int .i64) ys, .ro (.int .i64) ls, .int .u8 d, .ro (.int .u8) os] k = k (tB true) := by
  rw [between_text]
  have hs : dbt d = 1 + d.tmod 100 ∧ 0 ≤ d.tmod 100 ∧ d.tmod 100 < 100 := by
    have := Int.tmod_nonneg 100 hd.1
    have h2 := Int.tmod_lt_of_pos d (show (0 : Int) < 100 by omega)
    unfold dbt
    rw [i64_w d (by omega), i64_w _ (by omega)]
    exact ⟨rfl, this, h2⟩
  generalize dbt d = s at *
  generalize d.tmod 100 = q at *
  cases hodd : ([xs, ys] : List (List Int)).any longB
  · cases h1 : decide ((ls.length : Int) > 60)
    · cases h2 : decide ((os.length : Int) > 200)
      · simp only [cond_false]
        have hly : ys.length ≤ 60 := by
          simp only [List.any_cons, List.any_nil, Bool.or_false, Bool.or_eq_false_iff, longB, decide_eq_false_iff_not] at hodd
          omega
        cases hch : chnB xs ys s
        · simp [chE, chL, chH, chD, hch]
        · have e1 : (chE xs ys s != 0) = false := by simp [chE, hch]
          have hch' := hch
          simp only [chnB, Bool.and_eq_true] at hch'
          obtain ⟨c1, c2, c3⟩ := hch'
          have hl := cnt_len c1
          have hmo : moreOk xs s os := ⟨by omega, by omega, ho⟩
          have hmb : moreB xs s os = true := decide_eq_true hmo
          have ev := ev_of (n := xs.length) (by omega) c2
          have hroom : room ≥ 1000 := by decide
          have mi := more_is c1 hmo s.toNat (Nat.le_refl _)
          have mlen := more_len xs os s.toNat
          have P := parts_of hch hmo
          simp only [e1, hmb, cond_false, cond_true]
          rw [if_pos (by omega), in_plain ev.2 (by have := ml; omega) (by omega), cnt_plain (p := isIn ys) (by omega) (by rw [ins_len, mlen]) (fun i hi => ins_at ev.2 i (by omega)) (fun i => by have := mi.low i; omega) (by omega), mlen]
          obtain ⟨p1, p2, p3, p4, p5, p6, p7⟩ := P
          have hden : denC xs s = SP (at0 (moreSt xs os s.toNat)) (fun _ => true) xs.length := by rw [← p2]; simp [chD, hch]
          generalize SP (at0 (moreSt xs os s.toNat)) (fun _ => true) xs.length = T at *
          generalize SP (at0 (moreSt xs os s.toNat)) (isIn ys) xs.length = M at *
          have e2 : (chE xs (others (isIn ys) xs.length) s != 0) = false := by simp [chE, p1]
          have e3 : (chD xs ys s != T) = false := by simp [p2]
          have e4 : decide (M < chL xs ys s) = false := decide_eq_false (by omega)
          have e5 : decide (M > chH xs ys s) = false := decide_eq_false (by omega)
          have e6 : (IntKind.i64.wrap (chL xs ys s + chH xs (others (isIn ys) xs.length) s) != T) = false := by rw [p5, i64_w _ (by omega)]; simp
          have e7 : (IntKind.i64.wrap (chH xs ys s + chL xs (others (isIn ys) xs.length) s) != T) = false := by rw [p6, i64_w _ (by omega)]; simp
          simp only [e2, e3, e4, e5, e6, e7, cond_false]
          cases hmn : meanB xs ls s
          · simp [mnE, mnLo, mnHi, hmn]
          · have e8 : (mnE xs ls s != 0) = false := by simp [mnE, hmn]
            have hlen : ls.length = xs.length := by
              have := hmn
              simp only [meanB, Bool.and_eq_true] at this
              have := this.2.1
              unfold valsB at this
              simp only [Bool.and_eq_true, beq_iff_eq] at this
              omega
            simp only [e8, cond_false]
            rw [dot4_plain (by omega) (by have := ml; omega) (by omega), mlen]
            obtain ⟨m1, m2⟩ := mean_parts hmn (by omega) hmo hden
            simp only [decide_eq_true m1, decide_eq_true m2, cond_true]
      · rfl
    · rfl
  · rfl

def betweenF : List AVal → Option AOut
  | [.ro (.int .i64) _, .ro (.int .i64) _, .ro (.int .i64) _, .int .u8 d, .ro (.int .u8) os] => if (0 ≤ d ∧ d ≤ 255) ∧ List.all (α := Int) os (fun o => decide (0 ≤ o) && decide (o ≤ 255)) = true then some (tB true) else none
  | _ => none
theorem between_ok : FspOk Try.prog 4 (toFsp betweenF) := fsp_of mixed tabOk env14_ok Try.func4 between_enter fun args out hs hF => by
  unfold betweenF at hF
  split at hF
  · rename_i xs ys ls d os
    split at hF
    · rename_i h
      cases hF
      exact ⟨100, between_true xs ys ls os d h.1 h.2 some⟩
    · cases hF
  · cases hF
def betweenSs : Shs := .cons (.sl (.int .i64)) (.cons (.sl (.int .i64)) (.cons (.sl (.int .i64)) (.cons (.int .u8) (.cons (.sl (.int .u8)) .nil))))
theorem between_wf (ys : betweenSs.ty) (h : Wfs betweenSs ys) : betweenF (betweenSs.vals ys) = some (tB true) := by
  obtain ⟨xs, ys, ls, d, os, u⟩ := ys
  obtain ⟨_, _, _, hd, ⟨_, ho⟩, _⟩ := h
  have hb : ∀ n : Int, (Lit.int .u8 n).wf = true → 0 ≤ n ∧ n ≤ 255 := fun n hn => by
    simp [Lit.wf, IntKind.min, IntKind.max, IntKind.signed, IntKind.bits] at hn
    omega
  have key : (0 ≤ (show Int from d) ∧ (show Int from d) ≤ 255) ∧ List.all (α := Int) os (fun o => decide (0 ≤ o) && decide (o ≤ 255)) = true := ⟨hb d hd, List.all_eq_true.2 fun o hm => by
    have := hb o (ho o hm)
    simp; omega⟩
  show betweenF [.ro (.int .i64) xs, .ro (.int .i64) ys, .ro (.int .i64) ls, .int .u8 d, .ro (.int .u8) os] = _
  unfold betweenF
  exact if_pos key
end Go.Proofs.Ytleceelemogbcaa
