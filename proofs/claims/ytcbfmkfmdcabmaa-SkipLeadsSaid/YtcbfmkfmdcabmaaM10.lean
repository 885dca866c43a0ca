/- Parts of the proof, in build order. -/
import Derived.Test.YtcbfmkfmdcabmaaM6
import Derived.ProofKit
import Derived.Test.YtcbfmkfmdcabmaaM8
import Derived.Test.YtcbfmkfmdcabmaaM9
import Derived.Test.YtcbfmkfmdcabmaaChecked
namespace Go.Proofs.Ytcbfmkfmdcabmaa
open Go.RowKit
mutual
def fitB (P : Program) : Sh → TypeId → Bool
  | .int k, t =>
    match P.underlying t with
    | some (.int j) => decide (j = k)
    | _ => false
  | .bool, t =>
    match P.underlying t with
    | some .bool => true
    | _ => false
  | .str, t =>
    match P.underlying t with
    | some .string => true
    | _ => false
  | .recd fs, t =>
    match P.underlying t with
    | some (.struct l) => decide (P.cellsOf t = fs.size) && fitsB P fs l.toList 0
    | some (.array n u) => decide (P.cellsOf t = fs.size) && fitsA P fs u n
    | _ => false
  | .sl e, t =>
    match P.underlying t with
    | some (.slice u) => decide (P.cellsOf u = e.size) && decide (0 < e.size) && fitB P e u
    | _ => false
  | .mp _ _, _ => false
def fitsB (P : Program) : Shs → List Field → Nat → Bool
  | .nil, [], _ => true
  | .cons s r, f :: q, n => decide (f.offset = n) && decide (P.cellsOf f.type = s.size) && fitB P s f.type && fitsB P r q (n + s.size)
  | _, _, _ => false
def fitsA (P : Program) : Shs → TypeId → Nat → Bool
  | .nil, _, 0 => true
  | .cons s r, u, n + 1 => decide (P.cellsOf u = s.size) && fitB P s u && fitsA P r u n
  | _, _, _ => false
end
mutual
def Wf : (s : Sh) → s.ty → Prop
  | .int k, n => (Lit.int k n).wf = true
  | .bool, _ => True
  | .str, s => s.size ≤ maxLen
  | .recd fs, x => Wfs fs x
  | .sl e, xs => List.length (α := e.ty) xs ≤ maxLen ∧ ∀ x, List.Mem (α := e.ty) x xs → Wf e x
  | .mp _ _, _ => False
def Wfs : (fs : Shs) → fs.ty → Prop
  | .nil, _ => True
  | .cons s r, x => Wf s x.1 ∧ Wfs r x.2
end
theorem opened_cells {w : World} {base n : Nat} {a : Addr} {cs : List Value} (h : w.cells? base a n = some cs) : cs.length = n ∧ ∀ i, i < n → w.cell? (a.add i) = cs[i]? := by
  unfold World.cells? at h
  split at h
  · exact ⟨by simpa using mapM_some_length h, fun i hi => mapM_some_get h i i (by simp [hi])⟩
  · cases h
def gA (w : World) : Gh := ⟨fun _ => Go.undef, fun b => b < w.heap.size⟩
section
variable {P : Program} {H : Type} {enc : TypeId × Value → H} {w : World} {base : Nat} {spare : Nat → Bool} {held : Bool}
def Opens (w : World) (s : Sh) (y : s.ty) (cs : List Value) : Prop := Wf s y ∧ cs.length = s.size ∧ ∀ (j : Nat) c v, (s.cells y)[j]? = some c → cs[j]? = some v → Rep [] (gA w) w c v
theorem open_row {e : Sh} {a : Addr} {len cap : Nat} (hl : len ≤ cap) (hm : cap ≤ maxLen) (h0 : 0 < e.size)
    (each : ∀ i, i < len → ∃ cs, w.cells? base (a.add (i * e.size)) e.size = some cs ∧ ∃ y : e.ty, Opens w e y cs) : ∃ y : (Sh.sl e).ty, Opens w (.sl e) y [.slice (some a) len cap] := by
  rcases Nat.eq_zero_or_pos len with hz | hp
  · subst hz
    refine ⟨([] : List e.ty), ⟨Nat.zero_le _, fun x hx => by cases hx⟩, rfl, fun j c v hc hv => ?_⟩
    match j with
    | 0 => cases hc; cases hv; exact .ro0 e _ _ hm fun h => by cases h
    | j + 1 => cases hv
  · obtain ⟨b, o, spot⟩ := a
    have hb : b < w.heap.size := by
      obtain ⟨cs, h1, _⟩ := each 0 hp
      have := World.cells?_block h1 h0
      unfold Addr.add at this
      split at this <;> exact this
    have hspot : spot = none := by
      obtain ⟨cs, h1, y, _, h2, _⟩ := each 0 hp
      obtain ⟨hl, hc⟩ := opened_cells h1
      have h3 := hc 0 h0
      rw [List.getElem?_eq_getElem (by omega)] at h3
      simpa [Addr.add] using World.cell?_spot h3
    subst hspot
    have hadd : ∀ o i, (Addr.mk b o none).add i = ⟨b, o + i, none⟩ := fun o i => Addr.add_lit ..
    let f : Nat → e.ty := fun i => if h : i < len then Classical.choose (Classical.choose_spec (each i h)).2 else e.dflt
    have hf : ∀ i, i < len → ∃ cs, w.cells? base (Addr.add ⟨b, o, none⟩ (i * e.size)) e.size = some cs ∧ Opens w e (f i) cs := fun i hi => by
      refine ⟨Classical.choose (each i hi), (Classical.choose_spec (each i hi)).1, ?_⟩
      simp only [f, dif_pos hi]
      exact Classical.choose_spec (Classical.choose_spec (each i hi)).2
    have hget : ∀ (n : Nat) (x : e.ty), ((List.range len).map f)[n]? = some x → n < len ∧ x = f n := fun n x hn => by
      rw [List.getElem?_map] at hn
      rcases Nat.lt_or_ge n len with hlt | hge
      · rw [List.getElem?_range hlt] at hn; cases hn; exact ⟨hlt, rfl⟩
      · rw [List.getElem?_eq_none (by simpa using hge)] at hn; cases hn
    have hcell : ∀ (n : Nat) (x : e.ty) (j : Nat) c, ((List.range len).map f)[n]? = some x → (e.cells x)[j]? = some c → ∃ u, w.cell? ⟨b, o + n * e.size + j, none⟩ = some u ∧ Rep [] (gA w) w c u := fun n x j c hn hc => by
      obtain ⟨hlt, rfl⟩ := hget n x hn
      obtain ⟨cs, h1, _, h2, h3⟩ := hf n hlt
      obtain ⟨_, h4⟩ := opened_cells h1
      have hj : j < e.size := by rw [← Sh.cells_size e (f n)]; exact (List.getElem?_eq_some_iff.1 hc).1
      have h5 := h4 j hj
      rw [hadd, hadd] at h5
      have hcs : cs[j]? = some cs[j] := List.getElem?_eq_getElem (by omega)
      rw [hcs] at h5
      refine ⟨_, ?_, h3 j c _ hc hcs⟩
      exact h5
    have hlen : ((List.range len).map f).length = len := by simp
    refine ⟨(List.range len).map f, ⟨by show ((List.range len).map f).length ≤ _; omega, fun x hx => ?_⟩, rfl, fun j c v hc hv => ?_⟩
    · obtain ⟨n, hn⟩ := List.mem_iff_getElem?.1 (show x ∈ (List.range len).map f from hx)
      obtain ⟨hlt, rfl⟩ := hget n x hn
      obtain ⟨cs, _, h2, _⟩ := hf n hlt
      exact h2
    · match j with
      | 0 =>
        cases hc; cases hv
        have := Rep.ro1 (h := []) (g := gA w) (w := w) e ((List.range len).map f) b o cap (fun n j => (w.cell? ⟨b, o + n * e.size + j, none⟩).getD Go.undef) (by omega) (by omega) hm hb
          (fun n x j c hn hc => by obtain ⟨u, h1, _⟩ := hcell n x j c hn hc; rw [h1]; rfl)
          (fun n x j c hn hc => by obtain ⟨u, h1, h2⟩ := hcell n x j c hn hc; rw [h1]; exact h2)
        rw [hlen] at this
        exact this
      | j + 1 => cases hv
theorem trod_arr {fuel n : Nat} {t u : TypeId} {cs : List Value} {x : DataW H × List MemPlace} (hu : P.underlying t = some (.array n u)) (h : DataW.trod enc P w base spare held fuel t cs = some x) :
    cs.length = P.cellsOf t ∧ ∃ m, ∀ i, i < n → ∃ y, DataW.trod enc P w base spare held m u ((cs.drop (i * P.cellsOf u)).take (P.cellsOf u)) = some y := by
  cases fuel with
  | zero => simp [DataW.trod] at h
  | succ m =>
    unfold DataW.trod at h
    rw [hu] at h
    split at h <;> simp_all
    obtain ⟨_, xs, hp, _⟩ := h
    refine ⟨m, fun i hi => ?_⟩
    have hg := mapM_some_get hp i i (by simp [hi])
    have hl := mapM_some_length hp
    simp only [List.length_range] at hl
    rw [List.getElem?_eq_getElem (by omega)] at hg
    generalize xs[i] = p at hg
    exact ⟨p.1, p.2, hg⟩
mutual
theorem open_sh : (s : Sh) → ∀ (t : TypeId) (fuel : Nat) (cs : List Value) (x : DataW H × List MemPlace), fitB P s t = true → DataW.trod enc P w base spare held fuel t cs = some x → ∃ y : s.ty, Opens w s y cs
  | .int k, t, fuel, cs, x, hf, h => by
    simp only [fitB] at hf
    split at hf
    · rename_i j hu
      have := of_decide_eq_true hf
      subst this
      obtain ⟨n, rfl, _, hw⟩ := DataW.trod_int hu h
      refine ⟨(n : Int), hw, rfl, fun i c v hc hv => ?_⟩
      match i with
      | 0 => cases hc; cases hv; exact .int _ _
      | i + 1 => cases hv
    · cases hf
  | .bool, t, fuel, cs, x, hf, h => by
    simp only [fitB] at hf
    split at hf
    · rename_i hu
      obtain ⟨b, rfl, _⟩ := DataW.trod_bool hu h
      refine ⟨b, trivial, rfl, fun i c v hc hv => ?_⟩
      match i with
      | 0 => cases hc; cases hv; exact .bool _
      | i + 1 => cases hv
    · cases hf
  | .str, t, fuel, cs, x, hf, h => by
    simp only [fitB] at hf
    split at hf
    · rename_i hu
      obtain ⟨b, rfl, _, hl⟩ := DataW.trod_string hu h
      refine ⟨b, hl, rfl, fun i c v hc hv => ?_⟩
      match i with
      | 0 => cases hc; cases hv; exact .str _
      | i + 1 => cases hv
    · cases hf
  | .recd fs, t, fuel, cs, x, hf, h => by
    simp only [fitB] at hf
    split at hf
    · rename_i l hu
      simp only [Bool.and_eq_true, decide_eq_true_eq] at hf
      obtain ⟨xs, n, _, _, hl, hx, hfl⟩ := DataW.trod_struct hu h
      obtain ⟨y, hy, hr⟩ := open_shs fs l.toList 0 n cs hf.2 (fun f hm => by
        obtain ⟨i, hi⟩ := List.mem_iff_getElem?.1 hm
        have hi' : l[i]? = some f := by simpa using hi
        have hlt : i < xs.length := by rw [hx]; exact (Array.getElem?_eq_some_iff.1 hi').1
        exact ⟨xs[i], by rw [hfl i f hi', List.getElem?_eq_getElem hlt]⟩) (by rw [hl, hf.1]; omega)
      refine ⟨y, hy, by rw [hl, hf.1]; rfl, fun j c v hc hv => hr j c v hc (by rw [Nat.zero_add]; exact hv)⟩
    · rename_i n u hu
      simp only [Bool.and_eq_true, decide_eq_true_eq] at hf
      obtain ⟨hl, m, hx⟩ := trod_arr hu h
      obtain ⟨y, hy, hr⟩ := open_sha fs u n 0 m cs hf.2 (fun i hi => by rw [Nat.zero_add]; exact hx i hi) (by rw [hl, hf.1]; omega)
      refine ⟨y, hy, by rw [hl, hf.1]; rfl, fun j c v hc hv => hr j c v hc (by rw [Nat.zero_mul, Nat.zero_add]; exact hv)⟩
    · cases hf
  | .sl e, t, fuel, cs, x, hf, h => by
    simp only [fitB] at hf
    split at hf
    · rename_i u hu
      simp only [Bool.and_eq_true, decide_eq_true_eq] at hf
      obtain ⟨⟨h1, h2⟩, h3⟩ := hf
      rcases DataW.trod_slice hu h with ⟨rfl, -⟩ | ⟨a, len, cap, elems, rest, n, _, rfl, _, hb, hl, hm, hlen, hel, _, _⟩
      · refine ⟨([] : List e.ty), ⟨Nat.zero_le _, fun x hx => by cases hx⟩, rfl, fun j c v hc hv => ?_⟩
        match j with
        | 0 => cases hc; cases hv; exact .ro0 e _ _ (Nat.zero_le _) fun _ => rfl
        | j + 1 => cases hv
      · rw [h1] at hel
        refine open_row (base := base) hl hm h2 fun i hi => ?_
        have he := hel i hi
        rw [List.getElem?_eq_getElem (by omega)] at he
        obtain ⟨cs, e1, e2⟩ := Option.bind_eq_some_iff.1 he
        exact ⟨cs, e1, open_sh e u n cs _ h3 e2⟩
    · cases hf
  | .mp _ _, t, fuel, cs, x, hf, h => by simp [fitB] at hf
theorem open_shs : (fs : Shs) → ∀ (l : List Field) (n0 fuel : Nat) (cs : List Value), fitsB P fs l n0 = true →
    (∀ f ∈ l, ∃ x : DataW H × List MemPlace, DataW.trod enc P w base spare held fuel f.type ((cs.drop f.offset).take (P.cellsOf f.type)) = some x) → n0 + fs.size ≤ cs.length →
    ∃ y : fs.ty, Wfs fs y ∧ ∀ (j : Nat) c v, (fs.cells y)[j]? = some c → cs[n0 + j]? = some v → Rep [] (gA w) w c v
  | .nil, l, n0, fuel, cs, hf, h, hl => ⟨(), trivial, fun j c v hc => by simp [Shs.cells] at hc⟩
  | .cons s r, [], n0, fuel, cs, hf, h, hl => by simp [fitsB] at hf
  | .cons s r, f :: q, n0, fuel, cs, hf, h, hl => by
    simp only [fitsB, Bool.and_eq_true, decide_eq_true_eq] at hf
    obtain ⟨⟨⟨h1, h2⟩, h3⟩, h4⟩ := hf
    simp only [Shs.size] at hl
    obtain ⟨x, hx⟩ := h f (by simp)
    obtain ⟨y1, w1, l1, r1⟩ := open_sh s f.type fuel _ x h3 hx
    obtain ⟨y2, w2, r2⟩ := open_shs r q (n0 + s.size) fuel cs h4 (fun f' hm => h f' (List.mem_cons_of_mem _ hm)) (by omega)
    refine ⟨(y1, y2), ⟨w1, w2⟩, fun j c v hc hv => ?_⟩
    simp only [Shs.cells] at hc
    rcases Nat.lt_or_ge j s.size with hj | hj
    · rw [List.getElem?_append_left (by rw [Sh.cells_size]; exact hj)] at hc
      refine r1 j c v hc ?_
      rw [h1, h2, List.getElem?_take, if_pos hj, List.getElem?_drop]
      exact hv
    · rw [List.getElem?_append_right (by rw [Sh.cells_size]; exact hj), Sh.cells_size] at hc
      refine r2 _ c v hc ?_
      rw [show n0 + s.size + (j - s.size) = n0 + j by omega]
      exact hv
theorem open_sha : (fs : Shs) → ∀ (u : TypeId) (n i0 fuel : Nat) (cs : List Value), fitsA P fs u n = true →
    (∀ i, i < n → ∃ x : DataW H × List MemPlace, DataW.trod enc P w base spare held fuel u ((cs.drop ((i0 + i) * P.cellsOf u)).take (P.cellsOf u)) = some x) → i0 * P.cellsOf u + fs.size ≤ cs.length →
    ∃ y : fs.ty, Wfs fs y ∧ ∀ (j : Nat) c v, (fs.cells y)[j]? = some c → cs[i0 * P.cellsOf u + j]? = some v → Rep [] (gA w) w c v
  | .nil, u, n, i0, fuel, cs, hf, h, hl => ⟨(), trivial, fun j c v hc => by simp [Shs.cells] at hc⟩
  | .cons s r, u, 0, i0, fuel, cs, hf, h, hl => by simp [fitsA] at hf
  | .cons s r, u, n + 1, i0, fuel, cs, hf, h, hl => by
    simp only [fitsA, Bool.and_eq_true, decide_eq_true_eq] at hf
    obtain ⟨⟨h2, h3⟩, h4⟩ := hf
    simp only [Shs.size] at hl
    obtain ⟨x, hx⟩ := h 0 (by omega)
    obtain ⟨y1, w1, l1, r1⟩ := open_sh s u fuel _ x h3 hx
    have hm : (i0 + 1) * P.cellsOf u = i0 * P.cellsOf u + s.size := by rw [Nat.add_mul, Nat.one_mul, h2]
    obtain ⟨y2, w2, r2⟩ := open_sha r u n (i0 + 1) fuel cs h4 (fun i hi => by
      have := h (i + 1) (by omega)
      rwa [show i0 + (i + 1) = i0 + 1 + i by omega] at this) (by rw [hm]; omega)
    refine ⟨(y1, y2), ⟨w1, w2⟩, fun j c v hc hv => ?_⟩
    simp only [Shs.cells] at hc
    rcases Nat.lt_or_ge j s.size with hj | hj
    · rw [List.getElem?_append_left (by rw [Sh.cells_size]; exact hj)] at hc
      refine r1 j c v hc ?_
      rw [h2, Nat.add_zero, List.getElem?_take, if_pos hj, List.getElem?_drop, ← h2]
      exact hv
    · rw [List.getElem?_append_right (by rw [Sh.cells_size]; exact hj), Sh.cells_size] at hc
      refine r2 _ c v hc ?_
      rw [hm, show i0 * P.cellsOf u + s.size + (j - s.size) = i0 * P.cellsOf u + j by omega]
      exact hv
end
end
end Go.Proofs.Ytcbfmkfmdcabmaa

namespace Go.Proofs.Ytcbfmkfmdcabmaa
theorem u8_in {n : Int} (h : (Lit.int .u8 n).wf = true) : 0 ≤ n ∧ n ≤ 255 := by
  simp [Lit.wf, IntKind.min, IntKind.max, IntKind.signed, IntKind.bits] at h
  omega
end Go.Proofs.Ytcbfmkfmdcabmaa

namespace Go.Proofs.Ytcbfmkfmdcabmaa
def rvSh : Sh := .recd (.cons (.int .i64) (.cons (.recd (.cons (.sl LsSh) (.cons (.sl LsSh) .nil))) .nil))
end Go.Proofs.Ytcbfmkfmdcabmaa

namespace Go.Proofs.Ytcbfmkfmdcabmaa
open Go.RowKit
def leS {α : Type} (i : Int) (cL cH aL aH : Int) (F K : Option α) : Option α := bif i == 1 then bif decide (cL > aL) then F else bif decide (cH > aH) then F else K else K
def leR {α : Type} (i : Int) (cL cH aL aH : Int) (F K : Option α) : Option α :=
  bif i == 0 then bif decide (cL < aL) then F else bif decide (cH < aH) then F else leS i cL cH aL aH F K else leS i cL cH aL aH F K
def leV {α : Type} (i d : Int) (A B : List (List Int)) (e l t aL aH : Int) (F K : Option α) : Option α :=
  bif rsB d A B e l t then leR i (hv (d, A, B) (e, l, t, ())).1 (hv (d, A, B) (e, l, t, ())).2.1 aL aH F K else K
def leF {α : Type} (d : Int) (A B : List (List Int)) (c : List Int) (e l t aL aH : Int) (k : AOut → Option α) (x : Int × Unit) : Option (LRes (Int × Unit) α) :=
  bif decide (x.1 < 2) then
    bif coB A B then
      if 0 ≤ x.1 ∧ x.1 < ((2 : Nat) : Int) then
        bif x.1 == ((0 : Nat) : Int) then
          if (A.length + [c].length) * 24 ≤ room then if 0 ≤ x.1 ∧ x.1 < ((2 : Nat) : Int) then
            bif x.1 == ((0 : Nat) : Int) then leV x.1 d (A ++ [c]) B e l t aL aH (finL (k (b1 false))) (some (.cont (IntKind.i64.wrap (x.1 + 1), ())))
            else bif x.1 == ((0 + 1 : Nat) : Int) then none else none else none else none
        else bif x.1 == ((0 + 1 : Nat) : Int) then
          if (B.length + [c].length) * 24 ≤ room then if 0 ≤ x.1 ∧ x.1 < ((2 : Nat) : Int) then
            bif x.1 == ((0 : Nat) : Int) then none
            else bif x.1 == ((0 + 1 : Nat) : Int) then leV x.1 d A (B ++ [c]) e l t aL aH (finL (k (b1 false))) (some (.cont (IntKind.i64.wrap (x.1 + 1), ()))) else none else none else none
        else none
      else none
    else none
  else some (.brk 0 (x.1, ()))
def leL {α : Type} (N : Nat) (d : Int) (A B : List (List Int)) (c : List Int) (e l t aL aH : Int) (k : AOut → Option α) : Option α := afterL (iterL N (leF d A B c e l t aL aH k) (0, ())) fun id _ => if id = 0 then k (b1 true) else none
def leG {α : Type} (d : Int) (A B : List (List Int)) (c : List Int) (e l t : Int) (x : Int × Unit) : Option (LRes (Int × Unit) α) :=
  bif decide (x.1 < 2) then
    bif coB A B then
      if 0 ≤ x.1 ∧ x.1 < ((2 : Nat) : Int) then
        bif x.1 == ((0 : Nat) : Int) then
          if (A.length + [c].length) * 24 ≤ room then if 0 ≤ x.1 ∧ x.1 < ((2 : Nat) : Int) then
            bif x.1 == ((0 : Nat) : Int) then bif rsB d (A ++ [c]) B e l t then some (.cont (IntKind.i64.wrap (x.1 + 1), ())) else some (.cont (IntKind.i64.wrap (x.1 + 1), ()))
            else bif x.1 == ((0 + 1 : Nat) : Int) then none else none else none else none
        else bif x.1 == ((0 + 1 : Nat) : Int) then
          if (B.length + [c].length) * 24 ≤ room then if 0 ≤ x.1 ∧ x.1 < ((2 : Nat) : Int) then
            bif x.1 == ((0 : Nat) : Int) then none
            else bif x.1 == ((0 + 1 : Nat) : Int) then bif rsB d A (B ++ [c]) e l t then some (.cont (IntKind.i64.wrap (x.1 + 1), ())) else some (.cont (IntKind.i64.wrap (x.1 + 1), ())) else none else none else none
        else none
      else none
    else none
  else some (.brk 0 (x.1, ()))
def leE {α : Type} (N : Nat) (d : Int) (A B : List (List Int)) (c : List Int) (e l t : Int) (k : AOut → Option α) : Option α := afterL (iterL N (leG d A B c e l t) (0, ())) fun id _ => if id = 0 then k (b1 true) else none
def leM {α : Type} (N : Nat) (d : Int) (A B : List (List Int)) (c : List Int) (e l t l2 : Int) (k : AOut → Option α) : Option α :=
  bif rsB d A B e l t then
    bif rsB d A B e l2 t then bif decide ((hv (d, A, B) (e, l, t, ())).1 > (hv (d, A, B) (e, l2, t, ())).1) then k (b1 false) else bif decide ((hv (d, A, B) (e, l, t, ())).2.1 > (hv (d, A, B) (e, l2, t, ())).2.1) then k (b1 false) else leL N d A B c e l t (hv (d, A, B) (e, l, t, ())).1 (hv (d, A, B) (e, l, t, ())).2.1 k
    else leL N d A B c e l t (hv (d, A, B) (e, l, t, ())).1 (hv (d, A, B) (e, l, t, ())).2.1 k
  else bif rsB d A B e l2 t then leE N d A B c e l t k else leE N d A B c e l t k
def leH {α : Type} (N : Nat) (d : Int) (A B : List (List Int)) (c : List Int) (e l t l2 : Int) (k : AOut → Option α) : Option α := bif decide ((c.length : Int) > 60) then k (b1 true) else leM N d A B c e l t l2 k
noncomputable def kvaB : Fsp := fun _ args k => match args with
  | [.agg [.int .i64 d, .ro (.sl (.int .i64)) A, .ro (.sl (.int .i64)) B], .agg [.int .i64 e, .int .i64 l, .int .i64 t]] => bif rsB d A B e l t then k (.ret (.tup [hpA (hv (d, A, B) (e, l, t, ())).1 (hv (d, A, B) (e, l, t, ())).2.1, .int .i64 0])) else k (.ret (.tup [hpA 0 0, .int .i64 2]))
  | _ => none
theorem kvaB_ok : FspOk Try.prog 17 kvaB := fsp_weak kvaS_ok (by intro α args k; unfold kvaB; split <;> simp only [cond_bind, Option.bind_some, Option.bind_none]) fun args out h => by
  unfold kvaB at h
  split at h
  · rename_i d A B e l t
    unfold kvaS
    cases hr : rsB d A B e l t
    · rw [hr] at h
      refine Eq.trans ?_ h
      unfold vaL vaH rsE
      show some _ = some _
      rw [hr]
      rfl
    · rw [hr] at h
      refine Eq.trans ?_ h
      unfold vaL vaH rsE
      show some _ = some _
      rw [hr]
      rfl
  · cases h
def loB (A B : List (List Int)) (e n : Int) : Bool := grB A B || (decide (e > n) && decide (e ≤ 12))
theorem klo_text (N n0 : Nat) (α : Type) (d : Int) (A B : List (List Int)) (e l t n : Int) (k : AOut → Option α) : evFn real tab ((twY fsK9 spK).env real tab N (n0 + 30)) N Try.f16 α [.agg [.int .i64 d, .ro LsSh A, .ro LsSh B], .agg [.int .i64 e, .int .i64 l, .int .i64 t], .int .i64 n] k =
 bif grB A B then k (b1 true) else bif decide (e > n) then k (b1 (decide (e ≤ 12))) else k (b1 false) := by kernel_rfl
noncomputable def kloS : Fsp := fun _ args k => match args with
  | [.agg [.int .i64 _, .ro (.sl (.int .i64)) A, .ro (.sl (.int .i64)) B], .agg [.int .i64 e, .int .i64 _, .int .i64 _], .int .i64 n] => k (b1 (loB A B e n))
  | _ => none
theorem kloS_ok : FspOk Try.prog 16 kloS := tower_Y fsK9_ok spK_ok ⟨Try.func16, fun _ _ => by kernel_rfl⟩ (by intro α args k; unfold kloS; split <;> rfl) fun args out hSm hEq => by
  unfold kloS at hEq
  split at hEq
  · rename_i d A B e l t n
    refine ⟨20, 30, ((klo_text 20 0 AOut d A B e l t n some).trans ?_).trans hEq⟩
    unfold loB
    cases grB A B
    · cases decide (e > n) <;> rfl
    · rfl
  · cases hEq
noncomputable def fsK10 : FuncId → Option Fsp := fun g =>
  if g = 16 then some kloS else
  if g = 17 then some kvaB else
  fsK9 g
theorem fsK10_ok : FsOk fsK10 :=
  fs_cons kloS_ok <|
  fs_cons kvaB_ok <|
  fsK9_ok
set_option maxRecDepth 100000 in
theorem kle_text (N n0 : Nat) (α : Type) (d : Int) (A B : List (List Int)) (e l t m : Int) (c : List Int) (k : AOut → Option α) : evFn real tab ((twN fsK10 spC').env real tab N (n0 + 30)) N Try.f5 α [.agg [.int .i64 d, .ro LsSh A, .ro LsSh B], .agg [.int .i64 e, .int .i64 l, .int .i64 t], .int .u8 m, .ro (.int .i64) c] k =
 bif loB A B e 3 then k (b1 true) else leH N d A B c e l t (IntKind.i64.wrap (l + (IntKind.i64.wrap m).tmod 10)) k := by kernel_rfl
theorem gr1_co' {L : List (List Int)} (h : gr1 L = false) : co1 L = true := by
  unfold gr1 at h
  simp only [Bool.or_eq_false_iff, List.any_eq_false, Bool.and_eq_false_iff, decide_eq_false_iff_not, decide_eq_true_eq] at h
  unfold co1
  simp only [Bool.and_eq_true, decide_eq_true_eq, List.all_eq_true]
  exact ⟨by omega, fun c hc => by have := h.2.2 c hc; omega⟩
theorem rs_at {d : Int} {A B : List (List Int)} {e l t : Int} (h : rsB d A B e l t = true) : rvB (d, A, B) = true ∧ stB (e, l, t, ()) = true := by
  unfold rsB at h
  rwa [Bool.and_eq_true] at h
theorem leL_eq {α : Type} {d : Int} {A B : List (List Int)} {c : List Int} {e l t : Int} (hc : coB A B = true) (hr : rsB d A B e l t = true) (k : AOut → Option α) : leL 20 d A B c e l t (hv (d, A, B) (e, l, t, ())).1 (hv (d, A, B) (e, l, t, ())).2.1 k = k (b1 true) := by
  have hc' := hc
  unfold coB at hc'
  rw [Bool.and_eq_true] at hc'
  have a9 := (co1_in hc'.1).1
  have b9 := (co1_in hc'.2).1
  have hroom : room ≥ 10000 := by decide
  obtain ⟨h1, h2⟩ := rs_at hr
  have e0 := (Int.toNat_of_nonneg (stB_in h2).1.1).symm
  unfold leL
  refine (count_loop (f := leF d A B c e l t (hv (d, A, B) (e, l, t, ())).1 (hv (d, A, B) (e, l, t, ())).2.1 k) (fun i : Nat => ((i : Int), ())) 2 (fun i hi => ?_) (y := (2, ())) (b := 0) rfl (by omega)).trans ?_
  · have v0 : ∀ K : Option (LRes (Int × Unit) α), leV 0 d (A ++ [c]) B e l t (hv (d, A, B) (e, l, t, ())).1 (hv (d, A, B) (e, l, t, ())).2.1 (finL (k (b1 false))) K = K := fun K => by
      unfold leV
      cases hn : rsB d (A ++ [c]) B e l t
      · rfl
      · have q := (hv_more (u := 0) (c := c) (.inl rfl) h1 (rs_at hn).1 e.toNat e l t e0 h2).1 rfl
        have q1 : (hv (d, A, B) (e, l, t, ())).1 ≤ (hv (d, A ++ [c], B) (e, l, t, ())).1 := q.lo
        have q2 : (hv (d, A, B) (e, l, t, ())).2.1 ≤ (hv (d, A ++ [c], B) (e, l, t, ())).2.1 := q.hi
        show (bif decide (_ < _) then _ else bif decide (_ < _) then _ else leS 0 _ _ _ _ _ _) = _
        rw [decide_eq_false (Int.not_lt.2 q1), decide_eq_false (Int.not_lt.2 q2)]
        rfl
    have v1 : ∀ K : Option (LRes (Int × Unit) α), leV 1 d A (B ++ [c]) e l t (hv (d, A, B) (e, l, t, ())).1 (hv (d, A, B) (e, l, t, ())).2.1 (finL (k (b1 false))) K = K := fun K => by
      unfold leV
      cases hn : rsB d A (B ++ [c]) e l t
      · rfl
      · have q := (hv_more (u := 1) (c := c) (.inr rfl) h1 (rs_at hn).1 e.toNat e l t e0 h2).2 rfl
        have q1 : (hv (d, A, B ++ [c]) (e, l, t, ())).1 ≤ (hv (d, A, B) (e, l, t, ())).1 := q.lo
        have q2 : (hv (d, A, B ++ [c]) (e, l, t, ())).2.1 ≤ (hv (d, A, B) (e, l, t, ())).2.1 := q.hi
        show (bif decide (_ > _) then _ else bif decide (_ > _) then _ else _) = _
        rw [decide_eq_false (Int.not_lt.2 q1), decide_eq_false (Int.not_lt.2 q2)]
        rfl
    match i, hi with
    | 0, _ =>
      show (bif coB A B then if (A.length + [c].length) * 24 ≤ room then leV 0 d (A ++ [c]) B e l t _ _ _ _ else none else none) = _
      rw [hc, cond_true, if_pos (by simp only [List.length_cons, List.length_nil]; omega), v0]
      rfl
    | 1, _ =>
      show (bif coB A B then if (B.length + [c].length) * 24 ≤ room then leV 1 d A (B ++ [c]) e l t _ _ _ _ else none else none) = _
      rw [hc, cond_true, if_pos (by simp only [List.length_cons, List.length_nil]; omega), v1]
      rfl
  · rw [if_pos rfl]
theorem leE_eq {α : Type} {d : Int} {A B : List (List Int)} {c : List Int} {e l t : Int} (hc : coB A B = true) (k : AOut → Option α) : leE 20 d A B c e l t k = k (b1 true) := by
  have hc' := hc
  unfold coB at hc'
  rw [Bool.and_eq_true] at hc'
  have a9 := (co1_in hc'.1).1
  have b9 := (co1_in hc'.2).1
  have hroom : room ≥ 10000 := by decide
  unfold leE
  refine (count_loop (f := leG (α := α) d A B c e l t) (fun i : Nat => ((i : Int), ())) 2 (fun i hi => ?_) (y := (2, ())) (b := 0) rfl (by omega)).trans ?_
  · match i, hi with
    | 0, _ =>
      show (bif coB A B then if (A.length + [c].length) * 24 ≤ room then bif rsB d (A ++ [c]) B e l t then _ else _ else none else none) = _
      rw [hc, cond_true, if_pos (by simp only [List.length_cons, List.length_nil]; omega)]
      cases rsB d (A ++ [c]) B e l t <;> rfl
    | 1, _ =>
      show (bif coB A B then if (B.length + [c].length) * 24 ≤ room then bif rsB d A (B ++ [c]) e l t then _ else _ else none else none) = _
      rw [hc, cond_true, if_pos (by simp only [List.length_cons, List.length_nil]; omega)]
      cases rsB d A (B ++ [c]) e l t <;> rfl
  · rw [if_pos rfl]
theorem leM_eq {α : Type} {d : Int} {A B : List (List Int)} {c : List Int} {e l t l2 : Int} (hc : coB A B = true) (hl : -96 ≤ l ∧ l ≤ 96 → l ≤ l2) (k : AOut → Option α) : leM 20 d A B c e l t l2 k = k (b1 true) := by
  unfold leM
  cases hr : rsB d A B e l t
  · rw [cond_false, leE_eq hc]
    cases rsB d A B e l2 t <;> rfl
  · rw [cond_true, leL_eq hc hr]
    cases hr2 : rsB d A B e l2 t
    · rfl
    · obtain ⟨h1, h2⟩ := rs_at hr
      have h3 := (rs_at hr2).2
      have q := hv_lead h1 e.toNat e l l2 t (Int.toNat_of_nonneg (stB_in h2).1.1).symm (hl (stB_in h2).2.1) h2 h3
      have q1 : (hv (d, A, B) (e, l, t, ())).1 ≤ (hv (d, A, B) (e, l2, t, ())).1 := q.lo
      have q2 : (hv (d, A, B) (e, l, t, ())).2.1 ≤ (hv (d, A, B) (e, l2, t, ())).2.1 := q.hi
      rw [cond_true, decide_eq_false (Int.not_lt.2 q1), decide_eq_false (Int.not_lt.2 q2)]
      rfl
def u8B (n : Int) : Bool := decide (0 ≤ n) && decide (n ≤ 255)
theorem kle_true (d : Int) (A B : List (List Int)) (e l t m : Int) (c : List Int) (hm : u8B m = true) : evFn real tab ((twN fsK10 spC').env real tab 20 30) 20 Try.f5 AOut [.agg [.int .i64 d, .ro LsSh A, .ro LsSh B], .agg [.int .i64 e, .int .i64 l, .int .i64 t], .int .u8 m, .ro (.int .i64) c] some = some (b1 true) := by
  refine (kle_text 20 0 AOut d A B e l t m c some).trans ?_
  unfold u8B at hm
  simp only [Bool.and_eq_true, decide_eq_true_eq] at hm
  have hw : IntKind.i64.wrap m = m := by rw [IntKind.wrap_i64]; omega
  have h9 := Int.emod_lt_of_pos m (show (0 : Int) < 10 by omega)
  have h0 := Int.emod_nonneg m (show (10 : Int) ≠ 0 by omega)
  cases hlo : loB A B e 3
  · unfold loB at hlo
    rw [Bool.or_eq_false_iff] at hlo
    have hg := hlo.1
    unfold grB at hg
    rw [Bool.or_eq_false_iff] at hg
    have hc : coB A B = true := by unfold coB; rw [gr1_co' hg.1, gr1_co' hg.2]; rfl
    rw [cond_false]
    unfold leH
    rw [leM_eq hc (fun hl => by rw [hw, Int.tmod_eq_emod_of_nonneg hm.1, IntKind.wrap_i64]; omega)]
    cases decide ((c.length : Int) > 60) <;> rfl
  · rfl
def kleF : List AVal → Option AOut
  | [.agg [.int .i64 _, .ro (.sl (.int .i64)) _, .ro (.sl (.int .i64)) _], .agg [.int .i64 _, .int .i64 _, .int .i64 _], .int .u8 m, .ro (.int .i64) _] => if u8B m = true then some (b1 true) else none
  | _ => none
theorem kle_ok : FspOk Try.prog 5 (toFsp kleF) := tower_N fsK10_ok spC'_ok ⟨Try.func5, fun _ _ => by kernel_rfl⟩ (toFsp_nat _) fun args out hSm hq => by
  have h := toFsp_some hq
  unfold kleF at h
  split at h
  · rename_i d A B e l t m c
    split at h
    · rename_i hm
      exact ⟨20, 30, (kle_true d A B e l t m c hm).trans h⟩
    · cases h
  · cases h
theorem u8B_wf {n : Int} (h : (Lit.int .u8 n).wf = true) : u8B n = true := by
  have := u8_in h
  unfold u8B
  rw [decide_eq_true this.1, decide_eq_true this.2]; rfl
end Go.Proofs.Ytcbfmkfmdcabmaa

namespace Go.Proofs.Ytcbfmkfmdcabmaa
open Go.ChangeShapes Go.WideShapes Go.ChangeAt Go.RowKit
theorem own_knob : ownKnob Try.prog.godebug = none := by kernel_rfl
theorem laid_out : laidOutB Try.prog = true := by kernel_rfl
theorem post_of_below {H : Type} {enc : TypeId × Value → H} {P : Program} {f : Func} {s : ChangeSpec} {apart fresh handsOn again : Bool} {W W' : World} {args : Array Value} {v : Value} {ds gs : List (DataW H)} {before pa pv : List MemPlace}
    (hW : DataW.Whole enc P f.params.toList s.vars apart W args.toList ds gs before)
    (hres : ∀ (b : Nat) (sp : Nat → Bool) (hd : Bool), DataW.TrodAll enc P W' b sp hd f.resultTypes.toList (v.resultList f.resultTypes.size) (s.fn H (ds ++ gs)).results [])
    (hargs : ∀ sp : Nat → Bool, (∀ p ∈ before, sp p.block = true) → DataW.TrodAll enc P W' 0 sp true f.params.toList args.toList (s.fn H (ds ++ gs)).args pa)
    (hvars : ∀ sp : Nat → Bool, (∀ p ∈ before, sp p.block = true) → DataW.TrodVars enc P W' sp s.vars (s.fn H (ds ++ gs)).vars pv)
    (hps : before = pa ++ pv) (hb : Below W.heap.size W W')
    (hok : ∀ (j : Nat) (t : TypeId) (r : Value), f.resultTypes[j]? = some t → (v.resultList f.resultTypes.size)[j]? = some r → Value.okWide P W' .any 0 t r) :
    s.post enc P f apart fresh handsOn again W args v W' := by
  have hold : ∀ p ∈ before, (fun b => decide (b < W.heap.size)) p.block = true := fun p hp => by simpa using hW.lt p hp
  have hlt := hW.lt
  refine ⟨ds, gs, before, [], pa, pv, hW, hres _ _ _, hargs _ hold, hvars _ hold, hb.frame _, fun _ => ?_⟩
  obtain ⟨_, _, _, _, _, hz, hn⟩ := hW
  refine ⟨hok, _, _, ([] ++ pa) ++ pv, ⟨[] ++ pa, pv, trodAll_append (hargs _ (fun _ _ => rfl)) (hres _ _ _), hvars _ (fun _ _ => rfl), rfl, ?_, ?_⟩, ?_⟩
  · intro b off hp
    have hm : MemPlace.cell b off ∈ before := by rw [hps]; simpa using hp
    rw [hb.frozen (p := ⟨b, off, none⟩) (hlt _ hm)]
    exact hz b off hm
  · intro ha
    have := hn ha
    rw [hps] at this
    simpa using this
  · intro p hp _
    rw [hps]
    simpa using hp
end Go.Proofs.Ytcbfmkfmdcabmaa

namespace Go.Proofs.Ytcbfmkfmdcabmaa
open Go.RowKit Go.ChangeShapes Go.WideShapes Go.ChangeAt
def Shs.vals : (fs : Shs) → fs.ty → List AVal
  | .nil, _ => []
  | .cons s r, x => s.val x.1 :: r.vals x.2
def fitsT (P : Program) : Shs → List TypeId → Bool
  | .nil, [] => true
  | .cons s r, t :: q => fitB P s t && (P.readableRec t && decide (t < P.types.size)) && fitsT P r q
  | _, _ => false
section
variable {P : Program} {H : Type} {enc : TypeId × Value → H} {w : World} {base : Nat} {spare : Nat → Bool} {held : Bool}
theorem open_arg {s : Sh} {t : TypeId} {v : Value} {d : DataW H} {ps : List MemPlace} {r : Reach} {b0 : Nat} (hf : fitB P s t = true) (hv : Value.okWide P w r b0 t v) (h : DataW.Trod enc P w base spare held t v d ps) :
    ∃ y : s.ty, Wf s y ∧ Rep [] (gA w) w (s.val y) v := by
  obtain ⟨fuel, h⟩ := h
  obtain ⟨y, h1, h2, h3⟩ := open_sh s t fuel _ _ hf h
  refine ⟨y, h1, ?_⟩
  have one : (∀ a, v ≠ .agg a) → s.cells y = [s.val y] → Rep [] (gA w) w (s.val y) v := fun hn hc => by
    have hcv : v.cells.toList = [v] := by cases v <;> first | rfl | exact absurd rfl (hn _)
    exact h3 0 _ v (by rw [hc]; rfl) (by rw [hcv]; rfl)
  cases s with
  | recd fs =>
    simp only [fitB] at hf
    split at hf
    · rename_i l hu
      simp only [Value.okWide, hu] at hv
      obtain ⟨cs, rfl, _⟩ := hv
      refine .agg _ _ ((Sh.cells_size (.recd fs) y).trans (by simpa [Value.cells] using h2.symm)) fun j c x hc hx => h3 j c x hc (by simpa [Value.cells] using hx)
    · rename_i n u hu
      simp only [Value.okWide, hu] at hv
      obtain ⟨cs, rfl, _⟩ := hv
      refine .agg _ _ ((Sh.cells_size (.recd fs) y).trans (by simpa [Value.cells] using h2.symm)) fun j c x hc hx => h3 j c x hc (by simpa [Value.cells] using hx)
    · cases hf
  | int k =>
    refine one (fun a e => ?_) rfl
    subst e
    simp only [fitB] at hf
    split at hf
    · rename_i j hu
      simp [Value.okWide, hu, Cell.okWide, Cell.ok] at hv
    · cases hf
  | bool =>
    refine one (fun a e => ?_) rfl
    subst e
    simp only [fitB] at hf
    split at hf
    · rename_i hu
      simp [Value.okWide, hu, Cell.okWide, Cell.ok] at hv
    · cases hf
  | str =>
    refine one (fun a e => ?_) rfl
    subst e
    simp only [fitB] at hf
    split at hf
    · rename_i hu
      simp [Value.okWide, hu, Cell.okWide, Cell.ok] at hv
    · cases hf
  | mp k v => simp [fitB] at hf
  | sl e0 =>
    refine one (fun a e => ?_) rfl
    subst e
    simp only [fitB] at hf
    split at hf
    · rename_i u hu
      simp [Value.okWide, hu, Cell.okWide, Cell.ok] at hv
    · cases hf
theorem open_all {r : Reach} {b0 : Nat} : ∀ (ss : Shs) (ts : List TypeId) (vs : List Value) (ds : List (DataW H)) (ps : List MemPlace), fitsT P ss ts = true → DataW.TrodAll enc P w base spare held ts vs ds ps →
    (∀ (j : Nat) t v, ts[j]? = some t → vs[j]? = some v → Value.okWide P w r b0 t v) →
    ∃ ys : ss.ty, Wfs ss ys ∧ (ss.vals ys).length = vs.length ∧ ds.length = ts.length ∧ ∀ (j : Nat) c v, (ss.vals ys)[j]? = some c → vs[j]? = some v → Rep [] (gA w) w c v
  | .nil, [], vs, ds, ps, hf, h, hv => by
    obtain ⟨rfl, rfl, rfl⟩ := trodAll_nil h
    exact ⟨(), trivial, rfl, rfl, fun j c v hc => by simp [Shs.vals] at hc⟩
  | .cons s q, [], vs, ds, ps, hf, h, hv => by simp [fitsT] at hf
  | .nil, _ :: _, vs, ds, ps, hf, h, hv => by simp [fitsT] at hf
  | .cons s q, t :: ts, vs, ds, ps, hf, h, hv => by
    simp only [fitsT, Bool.and_eq_true] at hf
    obtain ⟨v, vs', d, ds', p1, p2, rfl, rfl, rfl, h1, h2⟩ := trodAll_cons h
    obtain ⟨y, a1, a2⟩ := open_arg hf.1.1 (hv 0 t v rfl rfl) h1
    obtain ⟨ys, b1, b2, b3, b4⟩ := open_all q ts vs' ds' p2 hf.2 h2 fun j t v ht hv' => hv (j + 1) t v (by simpa using ht) (by simpa using hv')
    refine ⟨(y, ys), ⟨a1, b1⟩, by simp [Shs.vals, b2], by simp [b3], fun j c v hc hv' => ?_⟩
    cases j with
    | zero =>
      simp only [Shs.vals, List.getElem?_cons_zero, Option.some.injEq] at hc hv'
      subst hc; subst hv'; exact a2
    | succ j => exact b4 j c v (by simpa [Shs.vals] using hc) (by simpa using hv')
theorem all_stays (hl : laidOutB P = true) {W W' : World} {sp' : Nat → Bool} : ∀ (ss : Shs) (ts : List TypeId) (vs : List Value) (ds : List (DataW H)) (ps : List MemPlace), fitsT P ss ts = true → DataW.TrodAll enc P W base (fun _ => true) true ts vs ds ps →
    (∀ p ∈ ps, W.sameAt W' p) → (∀ p ∈ ps, sp' p.block = true) → DataW.TrodAll enc P W' base sp' true ts vs ds ps
  | .nil, [], vs, ds, ps, hf, h, _, _ => by
    obtain ⟨rfl, rfl, rfl⟩ := trodAll_nil h
    rfl
  | .cons s q, [], vs, ds, ps, hf, h, _, _ => by simp [fitsT] at hf
  | .nil, _ :: _, vs, ds, ps, hf, h, _, _ => by simp [fitsT] at hf
  | .cons s q, t :: ts, vs, ds, ps, hf, h, h1, h2 => by
    simp only [fitsT, Bool.and_eq_true, decide_eq_true_eq] at hf
    obtain ⟨v, vs', d, ds', p1, p2, rfl, rfl, rfl, a1, a2⟩ := trodAll_cons h
    exact ⟨p1, p2, WideElems.Trod_stays hl hf.1.2.1 hf.1.2.2 a1 (fun p hp => h1 p (by simp [hp])) (fun p hp => h2 p (by simp [hp])),
      all_stays hl q ts vs' ds' p2 hf.2 a2 (fun p hp => h1 p (by simp [hp])) (fun p hp => h2 p (by simp [hp])), rfl⟩
theorem law_post {F : List AVal → Option AOut} {fid : FuncId} {fn : Func} {s : ChangeSpec} {apart fresh handsOn again : Bool} (hF : FspOk P fid (toFsp F)) (hl : laidOutB P = true) (ss : Shs) (hfit : fitsT P ss fn.params.toList = true) (hnv : s.vars = [])
    {tb : TypeId} (hres : fn.resultTypes = #[tb]) (hb : P.underlying tb = some .bool) (hlaw : ∀ ys : ss.ty, Wfs ss ys → F (ss.vals ys) = some (.ret (.bool true)))
    (hfn : ∀ ds : List (DataW H), ds.length = fn.params.toList.length → (s.fn H ds).results = [.lit (.bool true)] ∧ (s.fn H ds).args = ds ∧ (s.fn H ds).vars = [])
    {W : World} {b0 : Nat} {args : Array Value} {ds gs : List (DataW H)} {before : List MemPlace}
    (hval : ∀ (j : Nat) t v, fn.params[j]? = some t → args[j]? = some v → Value.okWide P W .any b0 t v) (hW : DataW.Whole enc P fn.params.toList s.vars apart W args.toList ds gs before) :
    Calls P fid args W fun e W' => ∃ v, e = .returned v ∧ s.post enc P fn apart fresh handsOn again W args v W' := by
  have hW' := hW
  obtain ⟨p, q, hA, hV, rfl, hfz, hnd⟩ := hW
  rw [hnv] at hV
  obtain ⟨rfl, rfl⟩ := trodVars_none hV
  obtain ⟨ys, h1, h2, h3, h4⟩ := open_all ss _ _ _ _ hfit hA fun j t v ht hv => hval j t v (by simpa using ht) (by simpa using hv)
  have hcall := hF.calls (ss.vals ys) (.ret (.bool true)) (by unfold toFsp; rw [hlaw ys h1]) (fun b => b < W.heap.size) W args (fun b hb => hb) (by simpa using h2) fun j c x hc hx => h4 j c x hc (by simpa using hx)
  refine hcall.mono fun e W' hp => ?_
  obtain ⟨M', _, _, _, hbl, x, rfl, hr⟩ := hp
  have := rep_bool hr
  subst this
  obtain ⟨f1, f2, f3⟩ := hfn ds h3
  have hlt : ∀ x ∈ p, x.block < W.heap.size := fun x hx => hW'.lt x (by simpa using hx)
  refine ⟨_, rfl, post_of_below (pa := p ++ []) (pv := []) hW' (fun b sp hd => ?_) (fun sp hsp => ?_) (fun sp hsp => ?_) (by simp) hbl (ok_one hres rfl (okWide_bool_mk hb _))⟩
  · rw [List.append_nil, f1, hres]
    exact trodAll_mk1 (shut_bool hb _)
  · rw [List.append_nil, f2, List.append_nil]
    exact all_stays hl ss _ _ _ _ hfit hA (fun x hx => hbl.same (hlt x hx)) fun x hx => hsp x (by simpa using hx)
  · rw [List.append_nil, f3, hnv]
    rfl
end
end Go.Proofs.Ytcbfmkfmdcabmaa
