/- Parts of the proof, in build order. -/
import Derived.Test.YtfbiblmlcepdlaaGreatM6
import Derived.Test.YtfbiblmlcepdlaaGreatProg
import Derived.WalkKit
import Derived.WalkSpells
import Derived.WalkLawsBesides
import Derived.Defers
import Derived.Recover
import Derived.Below
import Derived.Lib.Mul64
import Derived.Lib.BitFns
import Derived.Lib.Strings
import Derived.Lib.Slices
import Derived.Lib.Small
import Derived.Lib.Walk
import Derived.Laws.Bits64b
import Derived.Laws.Externs
import Derived.Deep.QuietTactic
import Derived.BigQuiet
import Derived.Outline
import Derived.LoopTactic
import Derived.Laws.BitsAllLaws
import Derived.Deep.DeepCutAuto
import Derived.Deep.CutBlock
import Derived.Deep.CutRange
import Derived.Deep.LoopGhost
namespace Go.Proofs.YtfbiblmlcepdlaaGreat
/-! Products. -/
def inC (x : Int) (b : List Int) (i : Nat) (s : Int × List Int) (k : Nat) : Int := s.1 + s.2.getD (i + k) 0 + x * b.getD k 0
def inSt (x : Int) (b : List Int) (i : Nat) (out : List Int) : Nat → Int × List Int
  | 0 => (0, out)
  | k + 1 => (inC x b i (inSt x b i out k) k / 32768, (inSt x b i out k).2.set (i + k) (inC x b i (inSt x b i out k) k % 32768))
structure InIs (x : Int) (b : List Int) (i : Nat) (out : List Int) (k : Nat) : Prop where
  len : (inSt x b i out k).2.length = out.length
  low : low15 (inSt x b i out k).2
  c : 0 ≤ (inSt x b i out k).1 ∧ (inSt x b i out k).1 < 32768
  vl : vl (inSt x b i out k).2 + (inSt x b i out k).1 * 32768 ^ (i + k) = vl out + x * vl (b.take k) * 32768 ^ i
  rest : ∀ j, i + k ≤ j → (inSt x b i out k).2.getD j 0 = out.getD j 0
theorem inC_in {x : Int} {b : List Int} {i : Nat} {out : List Int} (hx : 0 ≤ x ∧ x < 32768) (hb : low15 b) {k : Nat} (h : InIs x b i out k) : 0 ≤ inC x b i (inSt x b i out k) k ∧ inC x b i (inSt x b i out k) k < 1073741824 := by
  have h1 := h.c
  have h2 := low_get h.low (i + k)
  have h3 := low_get hb k
  have h4 : 0 ≤ x * b.getD k 0 := Int.mul_nonneg hx.1 h3.1
  have h5 : x * b.getD k 0 ≤ 32767 * 32767 := Int.mul_le_mul (by omega) (by omega) h3.1 (by omega)
  unfold inC
  omega
theorem in_is {x : Int} {b : List Int} {i : Nat} {out : List Int} (hx : 0 ≤ x ∧ x < 32768) (hb : low15 b) (ho : low15 out) (hl : i + b.length < out.length) : ∀ k, k ≤ b.length → InIs x b i out k
  | 0, _ => ⟨rfl, ho, by simp [inSt], by simp [inSt, vl], fun j _ => rfl⟩
  | k + 1, hk => by
    have h := in_is hx hb ho hl k (by omega)
    have hc := inC_in hx hb h
    have hlen := h.len
    refine ⟨by simp [inSt, hlen], ?_, ?_, ?_, fun j hj => ?_⟩
    · exact low_set h.low (by omega)
    · simp only [inSt]; omega
    · simp only [inSt]
      rw [vl_set _ _ _ (by omega), vl_take _ _ (by omega)]
      have hv := h.vl
      have e : inC x b i (inSt x b i out k) k % 32768 = inC x b i (inSt x b i out k) k - 32768 * (inC x b i (inSt x b i out k) k / 32768) := by omega
      rw [e]
      generalize hq : inC x b i (inSt x b i out k) k / 32768 = q
      have ec : inC x b i (inSt x b i out k) k = (inSt x b i out k).1 + (inSt x b i out k).2.getD (i + k) 0 + x * b.getD k 0 := rfl
      rw [ec]
      have p1 : (32768 : Int) ^ (i + (k + 1)) = 32768 ^ (i + k) * 32768 := by rw [← Nat.add_assoc, Int.pow_succ]
      have p2 : (32768 : Int) ^ (i + k) = 32768 ^ k * 32768 ^ i := by rw [Nat.add_comm, Int.pow_add]
      rw [p1]
      have e3 : x * (vl (b.take k) + b.getD k 0 * 32768 ^ k) * 32768 ^ i = x * vl (b.take k) * 32768 ^ i + x * b.getD k 0 * 32768 ^ (i + k) := by
        rw [p2, Int.mul_add, Int.add_mul]; simp only [Int.mul_assoc]
      rw [e3, ← Int.add_assoc, ← hv]
      generalize (32768 : Int) ^ (i + k) = P
      generalize (inSt x b i out k).2.getD (i + k) 0 = o
      generalize x * b.getD k 0 = m
      generalize (inSt x b i out k).1 = c
      have e4 : (c + o + m - 32768 * q - o) * P + q * (P * 32768) = c * P + m * P := by
        have : c + o + m - 32768 * q - o = c + m - 32768 * q := by omega
        rw [this, Int.sub_mul, Int.add_mul, Int.mul_comm P 32768, ← Int.mul_assoc q, Int.mul_comm q 32768]
        omega
      rw [Int.add_assoc, e4]; omega
    · simp only [inSt]
      rw [List.getD_eq_getElem?_getD, List.getElem?_set_ne (by omega), ← List.getD_eq_getElem?_getD]
      exact h.rest j (by omega)
def outSt (a b : List Int) : Nat → List Int
  | 0 => List.replicate (a.length + b.length) 0
  | i + 1 => (inSt (a.getD i 0) b i (outSt a b i) b.length).2.set (i + b.length) (inSt (a.getD i 0) b i (outSt a b i) b.length).1
structure OutIs (a b : List Int) (i : Nat) : Prop where
  len : (outSt a b i).length = a.length + b.length
  low : low15 (outSt a b i)
  vl : vl (outSt a b i) = vl (a.take i) * vl b
  rest : ∀ j, i + b.length ≤ j → (outSt a b i).getD j 0 = 0
theorem out_is {a b : List Int} (ha : low15 a) (hb : low15 b) : ∀ i, i ≤ a.length → OutIs a b i
  | 0, _ => ⟨by simp [outSt], fun x hx => by simp [outSt] at hx; omega, by simp [outSt, vl_zeros, vl], fun j hj => by simp [outSt, List.getD_eq_getElem?_getD, List.getElem?_replicate]; split <;> rfl⟩
  | i + 1, hi => by
    have h := out_is ha hb i (by omega)
    have hlen := h.len
    have k := in_is (low_get ha i) hb h.low (i := i) (by omega) b.length (Nat.le_refl _)
    have hr := k.rest (i + b.length) (Nat.le_refl _)
    rw [h.rest _ (Nat.le_refl _)] at hr
    have kl := k.len
    refine ⟨by simp only [outSt, List.length_set, kl, hlen], low_set k.low k.c, ?_, fun j hj => ?_⟩
    · simp only [outSt]
      rw [vl_set _ _ _ (by omega), hr, Int.sub_zero, k.vl, List.take_length, h.vl, vl_take _ _ (by omega), Int.add_mul]
      rw [Int.mul_assoc (a.getD i 0) (32768 ^ i), Int.mul_comm (32768 ^ i) (vl b), Int.mul_assoc]
    · simp only [outSt]
      rw [List.getD_eq_getElem?_getD, List.getElem?_set_ne (by omega), ← List.getD_eq_getElem?_getD, k.rest j (by omega)]
      exact h.rest j (by omega)
theorem out_dg {a b : List Int} (ha : isDg a = true) (hb : isDg b = true) : trimL (outSt a b a.length) = dg (vl a * vl b) := by
  rw [isDg_iff] at ha hb
  have la : low15 a := by rw [ha.1]; exact low_dg _ ha.2
  have lb : low15 b := by rw [hb.1]; exact low_dg _ hb.2
  have h := out_is la lb a.length (Nat.le_refl _)
  rw [trim_dg h.low, h.vl, List.take_length]
/-! Sums. -/
def plC (a b : List Int) (s : Int × List Int) (i : Nat) : Int := s.1 + a.getD i 0 + b.getD i 0
def plSt (a b : List Int) : Nat → Int × List Int
  | 0 => (0, [])
  | i + 1 => (plC a b (plSt a b i) i / 32768, (plSt a b i).2 ++ [plC a b (plSt a b i) i % 32768])
structure PlIs (a b : List Int) (i : Nat) : Prop where
  len : (plSt a b i).2.length = i
  low : low15 (plSt a b i).2
  c : 0 ≤ (plSt a b i).1 ∧ (plSt a b i).1 ≤ 1
  vl : vl (plSt a b i).2 + (plSt a b i).1 * 32768 ^ i = vl (a.take i) + vl (b.take i)
theorem vl_take' (l : List Int) (i : Nat) : vl (l.take (i + 1)) = vl (l.take i) + l.getD i 0 * 32768 ^ i := by
  rcases Nat.lt_or_ge i l.length with h | h
  · exact vl_take l i h
  · rw [List.take_of_length_le (by omega), List.take_of_length_le h, List.getD_eq_getElem?_getD, List.getElem?_eq_none h]; simp
theorem pl_is {a b : List Int} (ha : low15 a) (hb : low15 b) : ∀ i, PlIs a b i
  | 0 => ⟨rfl, fun x hx => by simp [plSt] at hx, by simp [plSt], by simp [plSt, vl]⟩
  | i + 1 => by
    have h := pl_is ha hb i
    have h1 := h.c
    have h2 := low_get ha i
    have h3 := low_get hb i
    have hl := h.len
    have hc : 0 ≤ plC a b (plSt a b i) i ∧ plC a b (plSt a b i) i < 65536 := by unfold plC; omega
    refine ⟨by simp [plSt, hl], low_app h.low (by omega), by simp only [plSt]; omega, ?_⟩
    simp only [plSt]
    rw [vl_append, hl, vl_take', vl_take', Int.pow_succ]
    have hv := h.vl
    have e : plC a b (plSt a b i) i % 32768 = plC a b (plSt a b i) i - 32768 * (plC a b (plSt a b i) i / 32768) := by omega
    rw [e]
    have ec : plC a b (plSt a b i) i = (plSt a b i).1 + a.getD i 0 + b.getD i 0 := rfl
    generalize plC a b (plSt a b i) i / 32768 = q
    rw [ec]
    generalize (32768 : Int) ^ i = P at *
    generalize (plSt a b i).1 = c at *
    generalize a.getD i 0 = x
    generalize b.getD i 0 = y
    rw [Int.sub_mul, Int.add_mul, Int.add_mul, Int.mul_comm P 32768, ← Int.mul_assoc q, Int.mul_comm q 32768]
    omega
/-! Differences. -/
def mnD (a b : List Int) (s : Int × List Int) (i : Nat) : Int := a.getD i 0 - s.1 - b.getD i 0
def mnSt (a b : List Int) : Nat → Int × List Int
  | 0 => (0, [])
  | i + 1 => (if mnD a b (mnSt a b i) i < 0 then 1 else 0, (mnSt a b i).2 ++ [if mnD a b (mnSt a b i) i < 0 then mnD a b (mnSt a b i) i + 32768 else mnD a b (mnSt a b i) i])
structure MnIs (a b : List Int) (i : Nat) : Prop where
  len : (mnSt a b i).2.length = i
  low : low15 (mnSt a b i).2
  c : 0 ≤ (mnSt a b i).1 ∧ (mnSt a b i).1 ≤ 1
  vl : vl (mnSt a b i).2 - (mnSt a b i).1 * 32768 ^ i = vl (a.take i) - vl (b.take i)
theorem mn_is {a b : List Int} (ha : low15 a) (hb : low15 b) : ∀ i, MnIs a b i
  | 0 => ⟨rfl, fun x hx => by simp [mnSt] at hx, by simp [mnSt], by simp [mnSt, vl]⟩
  | i + 1 => by
    have h := mn_is ha hb i
    have h1 := h.c
    have h2 := low_get ha i
    have h3 := low_get hb i
    have hl := h.len
    have hd : -32768 ≤ mnD a b (mnSt a b i) i ∧ mnD a b (mnSt a b i) i < 32768 := by unfold mnD; omega
    have hv := h.vl
    refine ⟨by simp [mnSt, hl], low_app h.low (by split <;> omega), by simp only [mnSt]; split <;> omega, ?_⟩
    simp only [mnSt]
    rw [vl_append, hl, vl_take', vl_take', Int.pow_succ]
    have ec : mnD a b (mnSt a b i) i = a.getD i 0 - (mnSt a b i).1 - b.getD i 0 := rfl
    generalize mnD a b (mnSt a b i) i = D at *
    generalize (32768 : Int) ^ i = P at *
    generalize (mnSt a b i).1 = c at *
    generalize a.getD i 0 = x at *
    generalize b.getD i 0 = y at *
    have e : D * P = x * P - c * P - y * P := by rw [ec, Int.sub_mul, Int.sub_mul]
    split
    · rw [Int.add_mul, Int.one_mul, Int.mul_comm P]; omega
    · omega
theorem mn_dg {a b : Int} (hb : 0 ≤ b) (h : b ≤ a) : trimL (mnSt (dg a) (dg b) (dg a).length).2 = dg (a - b) := by
  have ha : 0 ≤ a := by omega
  have k := mn_is (low_dg a ha) (low_dg b hb) (dg a).length
  rw [trim_dg k.low]
  have hv := k.vl
  have hlen : (dg b).length ≤ (dg a).length := by
    rcases Nat.lt_or_ge (dg a).length (dg b).length with hlt | hge
    · have := dg_len_lt ha hb hlt; omega
    · exact hge
  rw [List.take_length, List.take_of_length_le hlen, vl_dg a ha, vl_dg b hb] at hv
  have hlt := vl_lt k.low
  rw [k.len] at hlt
  have hp := pow15 (dg a).length
  have hc := k.c
  have : (mnSt (dg a) (dg b) (dg a).length).1 = 0 := by
    rcases Int.lt_or_le 0 (mnSt (dg a) (dg b) (dg a).length).1 with h1 | h1
    · have e1 : (mnSt (dg a) (dg b) (dg a).length).1 = 1 := by omega
      rw [e1] at hv; omega
    · omega
  rw [this] at hv
  congr 1
  omega
end Go.Proofs.YtfbiblmlcepdlaaGreat

namespace Go.Proofs.YtfbiblmlcepdlaaGreat
def isD (l : List Int) : Bool := isDg l && decide (vl l < 1532495540865888858358347027150309183618739122183602176)
theorem isD_iff {l : List Int} : isD l = true ↔ l = dg (vl l) ∧ 0 ≤ vl l ∧ vl l < 1532495540865888858358347027150309183618739122183602176 := by
  simp only [isD, Bool.and_eq_true, isDg_iff, decide_eq_true_eq, and_assoc]
theorem isD_dg {n : Int} (h : 0 ≤ n ∧ n < 1532495540865888858358347027150309183618739122183602176) : isD (dg n) = true := by
  rw [isD_iff, vl_dg n h.1]; exact ⟨rfl, h⟩
theorem dg_len {n : Int} (h : 0 ≤ n ∧ n < 1532495540865888858358347027150309183618739122183602176) : (dg n).length ≤ 12 := by
  rcases Nat.lt_or_ge (dg n).length 13 with h1 | h1
  · omega
  · have hz : n ≠ 0 := fun e => by subst e; simp [dg_zero] at h1
    have h2 := dg_ge n h.1 hz
    have h3 := pow_mono (show 12 ≤ (dg n).length - 1 by omega)
    have h4 : (32768 : Int) ^ 12 = 1532495540865888858358347027150309183618739122183602176 := by decide
    omega
theorem isD_len {l : List Int} (h : isD l = true) : l.length ≤ 12 := by
  rw [isD_iff] at h
  rw [h.1]; exact dg_len h.2
theorem isD_low {l : List Int} (h : isD l = true) : low15 l := by
  rw [isD_iff] at h
  rw [h.1]; exact low_dg _ h.2.1
theorem isD_isDg {l : List Int} (h : isD l = true) : isDg l = true := by
  rw [isD_iff] at h; rw [isDg_iff]; exact ⟨h.1, h.2.1⟩
theorem trimL_app0 (l : List Int) : trimL (l ++ [0]) = trimL l := by
  induction l with
  | nil => rfl
  | cons a r ih => simp only [List.cons_append, trimL, ih]
theorem trimL_last (l : List Int) (x : Int) (h : x ≠ 0) : trimL (l ++ [x]) = l ++ [x] := by
  induction l with
  | nil => simp [trimL, h]
  | cons a r ih =>
    simp only [List.cons_append, trimL, ih]
    split
    · rename_i e; exact absurd e (by simp)
    · rfl
end Go.Proofs.YtfbiblmlcepdlaaGreat

namespace Go.Proofs.YtfbiblmlcepdlaaGreat
open Go.RowKit
abbrev lN (l : List Int) : AVal := .ro (.int .i64) l
def l1 (l : List Int) : AOut := .ret (.ro (.int .i64) l)
theorem w64 (n : Int) (h : -9223372036854775808 ≤ n ∧ n ≤ 9223372036854775807) : IntKind.i64.wrap n = n := by rw [IntKind.wrap_i64]; omega
theorem mlx : maxLen = 9223372036854775807 := rfl
theorem roomx : room = 140737488355328 := rfl
theorem snoc_ind {P : List Int → Prop} (h0 : P []) (h1 : ∀ l y, P l → P (l ++ [y])) (l : List Int) : P l := by
  rw [← List.reverse_reverse l]
  induction l.reverse with
  | nil => exact h0
  | cons a r ih => rw [List.reverse_cons]; exact h1 _ _ ih
theorem dg_drop : ∀ (i : Nat) (n : Int), 0 ≤ n → (dg n).drop i = dg (n / 32768 ^ i)
  | 0, n, _ => by simp
  | i + 1, n, h => by
    rcases Int.lt_or_le 0 n with hp | hp
    · rw [dg_pos hp, List.drop_succ_cons, dg_drop i _ (by omega), Int.pow_succ, Int.mul_comm (32768 ^ i) 32768, Int.ediv_ediv_of_nonneg (by omega)]
    · have : n = 0 := by omega
      subst this
      simp [dg_zero]
def ofS : Fsp := fun _ args k => match args with
  | [.int .i64 n] => bif decide (0 ≤ n) && decide (n ≤ 9223372036854775807) then k (l1 (dg n)) else none
  | _ => none
theorem of_text (N n0 : Nat) (α : Type) (n : Int) (k : AOut → Option α) : evFn real tab ((twT (fun _ => none) (fun _ => none)).env real tab N n0) N Tryz.f48 α [iN n] k =
 afterL (iterL N (fun (x : List Int × Int × Unit) => bif decide (x.2.1 > 0) then if (x.1.length + [x.2.1.tmod 32768].length) * 8 ≤ room then some (LRes.cont (x.1 ++ [x.2.1.tmod
 32768], IntKind.i64.wrap (x.2.1.tdiv 32768), ())) else none else some (LRes.brk 0 (x.1, x.2.1, ()))) ([], n, ())) fun id y => if id = 0 then k (l1 y.1) else none := by kernel_rfl
theorem of_plain {α : Type} (n : Int) (h : 0 ≤ n ∧ n ≤ 9223372036854775807) (k : AOut → Option α) : evFn real tab ((twT (fun _ => none) (fun _ => none)).env real tab 20 0) 20 Tryz.f48 α [iN n] k = k (l1 (dg n)) := by
  rw [of_text]
  generalize hf : (fun x : List Int × Int × Unit => (_ : Option (LRes (List Int × Int × Unit) α))) = f
  have hlen := dg_len (n := n) ⟨h.1, by omega⟩
  have hz : n / 32768 ^ (dg n).length = 0 := by
    have := dg_drop (dg n).length n h.1
    rw [List.drop_length] at this
    exact (dg_nil (Int.ediv_nonneg h.1 (Int.le_of_lt (pow15 _)))).1 this.symm
  have e : iterL 20 f ([], n, ()) = some (.brk 0 (dg n, 0, ())) := by
    refine (congrArg (iterL 20 f) (by simp)).trans (iterL_count (f := f) (fun i : Nat => ((dg n).take i, n / 32768 ^ i, ())) (fun y e => by cases e) (dg n).length (fun i hi => ?_) ?_ 0 (Nat.zero_le _) 20 (by omega))
    · rw [← hf]
      have hm : 0 ≤ n / 32768 ^ i := Int.ediv_nonneg h.1 (Int.le_of_lt (pow15 i))
      have hd := dg_drop i n h.1
      have hne : n / 32768 ^ i ≠ 0 := fun e => by
        rw [e, dg_zero] at hd
        have := congrArg List.length hd
        simp at this; omega
      have hle : n / 32768 ^ i ≤ n := Int.ediv_le_self _ h.1
      rw [dg_pos (n := n / 32768 ^ i) (by omega)] at hd
      have hget : (dg n).getD i 0 = n / 32768 ^ i % 32768 := by
        have := congrArg (fun l => List.getD l 0 0) hd
        simpa [List.getD_eq_getElem?_getD] using this
      have ht : (dg n).take (i + 1) = (dg n).take i ++ [n / 32768 ^ i % 32768] := by
        rw [List.take_add_one, List.getElem?_eq_getElem hi, ← hget, List.getD_eq_getElem?_getD, List.getElem?_eq_getElem hi]
        rfl
      have e1 : (n / 32768 ^ i).tmod 32768 = n / 32768 ^ i % 32768 := Int.tmod_eq_emod_of_nonneg hm
      have e2 : (n / 32768 ^ i).tdiv 32768 = n / 32768 ^ i / 32768 := Int.tdiv_eq_ediv_of_nonneg hm
      simp only [decide_eq_true (show n / 32768 ^ i > 0 by omega), cond_true, e1, e2]
      rw [if_pos (by rw [roomx]; simp; omega), w64 _ (by omega), ← ht, Int.ediv_ediv_of_nonneg (Int.le_of_lt (pow15 i)), ← Int.pow_succ]
    · rw [← hf]
      simp only [hz, List.take_length]
      rfl
  rw [e]
  rfl
theorem ofS_ok : FspOk Tryz.prog 48 ofS := tower_S fs_nil sp_nil ⟨Tryz.func48, fun _ _ => by kernel_rfl⟩ (by intro α args k; unfold ofS; split <;> simp only [cond_bind, Option.bind_some, Option.bind_none]) fun args out hs h => by
  unfold ofS at h
  split at h
  · rename_i n
    cases hb : decide (0 ≤ n) && decide (n ≤ 9223372036854775807)
    · rw [hb] at h; cases h
    · rw [hb] at h
      simp only [Bool.and_eq_true, decide_eq_true_eq] at hb
      exact ⟨20, 0, (of_plain n hb some).trans h⟩
  · cases h
def trimS : Fsp := fun _ args k => match args with
  | [.ro (.int .i64) l] => k (l1 (trimL l))
  | _ => none
theorem trim_text (N n0 : Nat) (α : Type) (a : List Int) (k : AOut → Option α) : evFn real tab ((twT (fun _ => none) (fun _ => none)).env real tab N n0) N Tryz.f74 α [lN a] k =
 afterL (iterL N (fun (x : List Int × Unit) => bif decide ((x.1.length : Int) > 0) then if 0 ≤ IntKind.i64.wrap ((x.1.length : Int) - 1) ∧ IntKind.i64.wrap ((x.1.length : Int) - 1) <
 (x.1.length : Int) then bif x.1.getD (IntKind.i64.wrap ((x.1.length : Int) - 1)).toNat (Int.ofNat 0) == 0 then if 0 ≤ IntKind.i64.wrap ((x.1.length : Int) - 1) ∧ IntKind.i64.wrap
 ((x.1.length : Int) - 1) ≤ (x.1.length : Int) then some (LRes.cont (List.take (IntKind.i64.wrap ((x.1.length : Int) - 1)).toNat x.1, ())) else none else some (LRes.brk 0 (x.1, ()))
 else none else some (LRes.brk 0 (x.1, ()))) (a, ())) fun id y => if id = 0 then k (l1 y.1) else none := by kernel_rfl
theorem trim_plain {α : Type} (a : List Int) (hl : a.length ≤ maxLen) (k : AOut → Option α) : evFn real tab ((twT (fun _ => none) (fun _ => none)).env real tab (a.length + 1) 0) (a.length + 1) Tryz.f74 α [lN a] k = k (l1 (trimL a)) := by
  rw [trim_text]
  generalize hf : (fun x : List Int × Unit => (_ : Option (LRes (List Int × Unit) α))) = f
  have key : ∀ l : List Int, l.length ≤ maxLen → ∀ N, l.length < N → iterL N f (l, ()) = some (.brk 0 (trimL l, ())) := by
    refine snoc_ind (fun _ N hN => ?_) (fun l y ih hlen N hN => ?_)
    · obtain ⟨M, rfl⟩ : ∃ M, N = M + 1 := ⟨N - 1, by simp at hN; omega⟩
      have : f ([], ()) = some (.brk 0 ([], ())) := by rw [← hf]; rfl
      simp only [iterL, this]
      rfl
    · obtain ⟨M, rfl⟩ : ∃ M, N = M + 1 := ⟨N - 1, by omega⟩
      rw [List.length_append, List.length_singleton] at hlen hN
      rw [mlx] at hlen ih
      have hfl : f (l ++ [y], ()) = bif y == 0 then some (.cont (l, ())) else some (.brk 0 (l ++ [y], ())) := by
        rw [← hf]
        have e1 : (((l ++ [y]).length : Nat) : Int) - 1 = (l.length : Int) := by simp
        simp only [e1]
        have hL : (((l ++ [y]).length : Nat) : Int) = (l.length : Int) + 1 := by simp
        rw [w64 (l.length : Int) (by omega), decide_eq_true (show (((l ++ [y]).length : Nat) : Int) > 0 by rw [hL]; omega), cond_true, if_pos ⟨by omega, by rw [hL]; omega⟩, if_pos ⟨by omega, by rw [hL]; omega⟩]
        have e2 : (l ++ [y]).getD ((l.length : Int)).toNat (Int.ofNat 0) = y := by simp [List.getD_eq_getElem?_getD]
        have e3 : List.take ((l.length : Int)).toNat (l ++ [y]) = l := by simp
        rw [e2, e3]
      simp only [iterL, hfl]
      by_cases hy : y = 0
      · subst hy
        rw [beq_self_eq_true, cond_true, trimL_app0]
        exact ih (by omega) M (by omega)
      · rw [beq_eq_false_iff_ne.2 hy, cond_false, trimL_last _ _ hy]
  rw [key a hl _ (by omega)]
  rfl
theorem trimS_ok : FspOk Tryz.prog 74 trimS := tower_S fs_nil sp_nil ⟨Tryz.func74, fun _ _ => by kernel_rfl⟩ (by intro α args k; unfold trimS; split <;> rfl) fun args out hs h => by
  unfold trimS at h
  split at h
  · rename_i l
    exact ⟨_, 0, (trim_plain l (hs _ (by simp)).len some).trans h⟩
  · cases h
theorem isD_small {l : List Int} (h : isD l = true) : (l.length ≤ 4 ↔ vl l < 1152921504606846976) := by
  have h4 : (32768 : Int) ^ 4 = 1152921504606846976 := by decide
  have hlow := isD_low h
  constructor
  · intro hl
    have := vl_lt hlow
    have := pow_mono hl
    omega
  · intro hv
    rcases Nat.lt_or_ge l.length 5 with h5 | h5
    · omega
    · rw [isD_iff] at h
      have hz : vl l ≠ 0 := fun e => by have := h.1; rw [e, dg_zero] at this; rw [this] at h5; simp at h5
      have h2 := dg_ge (vl l) h.2.1 hz
      rw [← h.1] at h2
      have := pow_mono (show 4 ≤ l.length - 1 by omega)
      omega
def smB (n : Int) : Bool := decide (n < 1152921504606846976)
def numberS : Fsp := fun _ args k => match args with
  | [.ro (.int .i64) l] => bif isD l then k (.ret (.tup [iN (bif smB (vl l) then vl l else 0), bN (smB (vl l))])) else none
  | _ => none
theorem number_text (N n0 : Nat) (α : Type) (a : List Int) (k : AOut → Option α) : evFn real tab ((twT (fun _ => none) (fun _ => none)).env real tab N n0) N Tryz.f76 α [lN a] k =
 bif decide ((a.length : Int) > 4) then k (.ret (.tup [iN 0, bN false])) else afterL (iterL N (fun (x : Int × Int × Unit) => bif decide (x.2.1 ≥ 0) then if 0 ≤ x.2.1 ∧ x.2.1 <
 (a.length : Int) then some (LRes.cont (IntKind.i64.wrap (IntKind.i64.wrap (32768 * x.1) + a.getD x.2.1.toNat (Int.ofNat 0)), IntKind.i64.wrap (x.2.1 - 1), ())) else none else some
 (LRes.brk 0 (x.1, x.2.1, ()))) (0, IntKind.i64.wrap ((a.length : Int) - 1), ())) fun id y => if id = 0 then k (.ret (.tup [iN y.1, bN true])) else none := by kernel_rfl
theorem number_plain {α : Type} (a : List Int) (h : isD a = true) (k : AOut → Option α) : evFn real tab ((twT (fun _ => none) (fun _ => none)).env real tab 20 0) 20 Tryz.f76 α [lN a] k = k (.ret (.tup [iN (bif smB (vl a) then vl a else 0), bN (smB (vl a))])) := by
  rw [number_text]
  have hs := isD_small h
  have hlow := isD_low h
  by_cases hl : a.length ≤ 4
  · have hv := hs.1 hl
    have e0 : smB (vl a) = true := decide_eq_true hv
    rw [decide_eq_false (show ¬ (a.length : Int) > 4 by omega), cond_false, e0, cond_true]
    generalize hf : (fun x : Int × Int × Unit => (_ : Option (LRes (Int × Int × Unit) α))) = f
    have e : iterL 20 f (0, IntKind.i64.wrap ((a.length : Int) - 1), ()) = some (.brk 0 (vl a, -1, ())) := by
      refine (congrArg (iterL 20 f) ?_).trans (iterL_count (f := f) (fun j : Nat => (vl (a.drop (a.length - j)), (a.length : Int) - 1 - j, ())) (fun y e => by cases e) a.length (fun j hj => ?_) ?_ 0 (Nat.zero_le _) 20 (by omega))
      · rw [w64 _ (by omega)]; simp [vl]
      · rw [← hf]
        have hi : ((a.length : Int) - 1 - j).toNat = a.length - 1 - j := by omega
        have hlt : a.length - 1 - j < a.length := by omega
        have hd : a.drop (a.length - (j + 1)) = a.getD (a.length - 1 - j) 0 :: a.drop (a.length - j) := by
          rw [show a.length - (j + 1) = a.length - 1 - j by omega, List.drop_eq_getElem_cons hlt, List.getD_eq_getElem?_getD, List.getElem?_eq_getElem hlt, show a.length - 1 - j + 1 = a.length - j by omega]
          rfl
        have hb := low_get hlow (a.length - 1 - j)
        have h0 := vl_nn (low_drop hlow (a.length - j))
        have h1 := vl_lt (low_drop hlow (a.length - j))
        have h2 := pow_mono (show (a.drop (a.length - j)).length ≤ 3 by simp; omega)
        have h3 : (32768 : Int) ^ 3 = 35184372088832 := by decide
        simp only [decide_eq_true (show (a.length : Int) - 1 - j ≥ 0 by omega), cond_true, hi, hd, vl, show Int.ofNat 0 = 0 from rfl]
        rw [if_pos ⟨by omega, by omega⟩, w64 (32768 * _) (by omega), w64 _ (by omega), w64 _ (by omega)]
        congr 3
        · omega
        · congr 1; omega
      · rw [← hf]
        simp only [decide_eq_false (show ¬ (a.length : Int) - 1 - a.length ≥ 0 by omega), cond_false, Nat.sub_self, List.drop_zero]
        rw [show (a.length : Int) - 1 - a.length = -1 by omega]
    rw [e]
    rfl
  · have hv : ¬ vl a < 1152921504606846976 := fun c => hl (hs.2 c)
    have e0 : smB (vl a) = false := decide_eq_false hv
    rw [decide_eq_true (show (a.length : Int) > 4 by omega), cond_true, e0]
    rfl
theorem numberS_ok : FspOk Tryz.prog 76 numberS := tower_S fs_nil sp_nil ⟨Tryz.func76, fun _ _ => by kernel_rfl⟩ (by intro α args k; unfold numberS; split <;> simp only [cond_bind, Option.bind_some, Option.bind_none]) fun args out hs h => by
  unfold numberS at h
  split at h
  · rename_i l
    cases hb : isD l
    · rw [hb] at h; cases h
    · rw [hb] at h
      exact ⟨20, 0, (number_plain l hb some).trans h⟩
  · cases h
end Go.Proofs.YtfbiblmlcepdlaaGreat

namespace Go.Proofs.YtfbiblmlcepdlaaGreat
open Go.RowKit
def orderS : Fsp := fun _ args k => match args with
  | [.ro (.int .i64) a, .ro (.int .i64) b] => bif isD a && isD b then k (i1 (cmp3 (vl a) (vl b))) else none
  | _ => none
theorem order_text (N n0 : Nat) (α : Type) (a b : List Int) (k : AOut → Option α) : evFn real tab ((twT (fun _ => none) (fun _ => none)).env real tab N n0) N Tryz.f69 α [lN a, lN b] k =
 bif decide ((a.length : Int) < (b.length : Int)) then k (i1 (-1)) else bif decide ((a.length : Int) > (b.length : Int)) then k (i1 1) else afterL (iterL N (fun (x : Int × Unit) =>
 bif decide (x.1 ≥ 0) then if 0 ≤ x.1 ∧ x.1 < (a.length : Int) then if 0 ≤ x.1 ∧ x.1 < (b.length : Int) then bif decide (a.getD x.1.toNat (Int.ofNat 0) < b.getD x.1.toNat (Int.ofNat
 0)) then finL (k (i1 (-1))) else if 0 ≤ x.1 ∧ x.1 < (a.length : Int) then if 0 ≤ x.1 ∧ x.1 < (b.length : Int) then bif decide (a.getD x.1.toNat (Int.ofNat 0) > b.getD x.1.toNat
 (Int.ofNat 0)) then finL (k (i1 1)) else some (LRes.cont (IntKind.i64.wrap (x.1 - 1), ())) else none else none else none else none else some (LRes.brk 0 (x.1, ())))
 (IntKind.i64.wrap ((a.length : Int) - 1), ())) fun id _ => if id = 0 then k (i1 0) else none := by kernel_rfl
theorem drop_eq {l m : List Int} (hl : m.length = l.length) {i : Nat} (h : ∀ j, i ≤ j → j < l.length → l.getD j 0 = m.getD j 0) : l.drop i = m.drop i := by
  apply List.ext_getElem
  · simp [hl]
  · intro j h1 h2
    simp only [List.length_drop] at h1 h2
    have := h (i + j) (by omega) (by omega)
    rw [List.getD_eq_getElem?_getD, List.getD_eq_getElem?_getD, List.getElem?_eq_getElem (by omega), List.getElem?_eq_getElem (by omega)] at this
    simpa using this
theorem order_plain {α : Type} (a b : List Int) (ha : isD a = true) (hb : isD b = true) (k : AOut → Option α) : evFn real tab ((twT (fun _ => none) (fun _ => none)).env real tab (a.length + 1) 0) (a.length + 1) Tryz.f69 α [lN a, lN b] k = k (i1 (cmp3 (vl a) (vl b))) := by
  rw [order_text]
  have la := isD_len ha
  have lb := isD_len hb
  rw [isD_iff] at ha hb
  obtain ⟨ea, a0, a1⟩ := ha
  obtain ⟨eb, b0, b1⟩ := hb
  generalize vl a = A at *
  generalize vl b = B at *
  subst ea; subst eb
  unfold cmp3
  by_cases h1 : (dg A).length < (dg B).length
  · rw [decide_eq_true (by omega), cond_true, if_pos (dg_len_lt a0 b0 h1)]
  · rw [decide_eq_false (by omega), cond_false]
    by_cases h2 : (dg B).length < (dg A).length
    · have := dg_len_lt b0 a0 h2
      rw [decide_eq_true (by omega), cond_true, if_neg (by omega), if_pos this]
    · have hl : (dg B).length = (dg A).length := by omega
      rw [decide_eq_false (by omega), cond_false]
      generalize hf : (fun x : Int × Unit => (_ : Option (LRes (Int × Unit) α))) = f
      have e := iterL_find (f := f) (fun j : Nat => (((dg A).length : Int) - 1 - j, ())) (fun j => (dg A).getD ((dg A).length - 1 - j) 0 != (dg B).getD ((dg A).length - 1 - j) 0)
        (R := fun j => if (dg A).getD ((dg A).length - 1 - j) 0 < (dg B).getD ((dg A).length - 1 - j) 0 then finL (k (i1 (-1))) else finL (k (i1 1))) (E := some (.brk 0 (-1, ())))
        (fun i y => by split <;> exact fin_not _ y) (brk_not _ _) (dg A).length (fun j hj => ?_) ?_
      · have e0 : (((dg A).length : Int) - 1 - ((0 : Nat) : Int), ()) = (IntKind.i64.wrap (((dg A).length : Int) - 1), ()) := by rw [w64 _ (by omega)]; simp
        rw [e0] at e
        rw [e]
        cases hq : (List.range (dg A).length).find? fun j => (dg A).getD ((dg A).length - 1 - j) 0 != (dg B).getD ((dg A).length - 1 - j) 0 with
        | none =>
          rw [List.find?_eq_none] at hq
          have heq : (dg A).drop 0 = (dg B).drop 0 := drop_eq hl fun j _ hj => by
            have := hq ((dg A).length - 1 - j) (List.mem_range.2 (by omega))
            rw [show (dg A).length - 1 - ((dg A).length - 1 - j) = j by omega] at this
            simpa using this
          have : A = B := dg_eq a0 b0 heq
          rw [if_neg (by omega), if_neg (by omega)]
          rfl
        | some j =>
          have hj := List.mem_range.1 (List.mem_of_find?_eq_some hq)
          have hne := List.find?_some hq
          simp only [bne_iff_ne, ne_eq] at hne
          have hdrop : (dg A).drop ((dg A).length - 1 - j + 1) = (dg B).drop ((dg A).length - 1 - j + 1) := drop_eq hl fun i hi hi2 => by
            have hb := (List.find?_range_eq_some.1 hq).2.2 ((dg A).length - 1 - i) (by omega)
            rw [show (dg A).length - 1 - ((dg A).length - 1 - i) = i by omega] at hb
            simpa using hb
          dsimp only
          by_cases hlt : (dg A).getD ((dg A).length - 1 - j) 0 < (dg B).getD ((dg A).length - 1 - j) 0
          · rw [if_pos hlt, if_pos (dg_top a0 b0 (by omega) (by omega) hdrop hlt)]
            cases k (i1 (-1)) <;> rfl
          · have := dg_top b0 a0 (i := (dg A).length - 1 - j) (by omega) (by omega) hdrop.symm (by omega)
            rw [if_neg hlt, if_neg (by omega), if_pos this]
            cases k (i1 1) <;> rfl
      · rw [← hf]
        have hi : (((dg A).length : Int) - 1 - j).toNat = (dg A).length - 1 - j := by omega
        simp only [decide_eq_true (show ((dg A).length : Int) - 1 - j ≥ 0 by omega), cond_true, hi, show Int.ofNat 0 = 0 from rfl]
        rw [if_pos ⟨by omega, by omega⟩, if_pos ⟨by omega, by omega⟩, if_pos ⟨by omega, by omega⟩, if_pos ⟨by omega, by omega⟩, w64 _ (by omega)]
        generalize (dg A).getD ((dg A).length - 1 - j) 0 = u
        generalize (dg B).getD ((dg A).length - 1 - j) 0 = v
        by_cases c1 : u < v
        · rw [decide_eq_true c1, if_pos c1, show (u != v) = true by simp; omega]; rfl
        · rw [decide_eq_false c1, if_neg c1]
          by_cases c2 : u > v
          · rw [decide_eq_true c2, show (u != v) = true by simp; omega]; rfl
          · rw [decide_eq_false c2, show (u != v) = false by simp; omega, cond_false, cond_false, cond_false, show ((dg A).length : Int) - 1 - j - 1 = ((dg A).length : Int) - 1 - ((j + 1 : Nat) : Int) by omega]
      · rw [← hf]
        simp only [decide_eq_false (show ¬ ((dg A).length : Int) - 1 - (dg A).length ≥ 0 by omega), cond_false]
        rw [show ((dg A).length : Int) - 1 - (dg A).length = -1 by omega]
theorem orderS_ok : FspOk Tryz.prog 69 orderS := tower_S fs_nil sp_nil ⟨Tryz.func69, fun _ _ => by kernel_rfl⟩ (by intro α args k; unfold orderS; split <;> simp only [cond_bind, Option.bind_some, Option.bind_none]) fun args out hs h => by
  unfold orderS at h
  split at h
  · rename_i a b
    cases hb : isD a && isD b
    · rw [hb] at h; cases h
    · rw [hb] at h
      rw [Bool.and_eq_true] at hb
      exact ⟨_, 0, (order_plain a b hb.1 hb.2 some).trans h⟩
  · cases h
/-! Sums. -/
def plusDS : Fsp := fun _ args k => match args with
  | [.ro (.int .i64) a, .ro (.int .i64) b] => bif isD a && isD b then k (l1 (dg (vl a + vl b))) else none
  | _ => none
section
variable {σ α : Type}
def plDE (out : List Int) (c i : Int) : Option (LRes (List Int × Int × Int × Unit) α) :=
  if (out.length + [c.tmod 32768].length) * 8 ≤ room then some (LRes.cont (out ++ [c.tmod 32768], IntKind.i64.wrap (c.tdiv 32768), IntKind.i64.wrap (i + 1), ())) else none
def plB2 (b : List Int) (out : List Int) (c i : Int) : Option (LRes (List Int × Int × Int × Unit) α) :=
  bif decide (i < (b.length : Int)) then
    if 0 ≤ i ∧ i < (b.length : Int) then plDE out (IntKind.i64.wrap (c + b.getD i.toNat (Int.ofNat 0))) i else none
  else plDE out c i
def plB1 (a b : List Int) (out : List Int) (c i : Int) : Option (LRes (List Int × Int × Int × Unit) α) :=
  bif decide (i < (a.length : Int)) then
    if 0 ≤ i ∧ i < (a.length : Int) then plB2 b out (IntKind.i64.wrap (c + a.getD i.toNat (Int.ofNat 0))) i else none
  else plB2 b out c i
end
theorem plusD_text (N n0 : Nat) (α : Type) (a b : List Int) (k : AOut → Option α) : evFn real tab ((twT (fun _ => none) (fun _ => none)).env real tab N n0) N Tryz.f71 α [lN a, lN b] k =
 afterL (iterL N (fun (x : List Int × Int × Int × Unit) => bif decide (x.2.2.1 < (a.length : Int)) then plB1 a b x.1 x.2.1 x.2.2.1 else bif decide (x.2.2.1 < (b.length : Int)) then
 plB1 a b x.1 x.2.1 x.2.2.1 else bif decide (x.2.1 > 0) then plB1 a b x.1 x.2.1 x.2.2.1 else some (LRes.brk 0 (x.1, x.2.1, x.2.2.1, ()))) ([], 0, 0, ())) fun id y => if id = 0 then k
 (l1 y.1) else none := by kernel_rfl
theorem plB_step {α : Type} {a b : List Int} (ha : low15 a) (hb : low15 b) {i : Nat} (hi : i ≤ 20) : plB1 (α := α) a b (plSt a b i).2 (plSt a b i).1 i = some (.cont ((plSt a b (i + 1)).2, (plSt a b (i + 1)).1, ((i + 1 : Nat) : Int), ())) := by
  have h := pl_is ha hb i
  have hl := h.len
  have hc := h.c
  have h2 := low_get ha i
  have h3 := low_get hb i
  have fin : ∀ c : Int, c = plC a b (plSt a b i) i → plDE (α := α) (plSt a b i).2 c i = some (.cont ((plSt a b (i + 1)).2, (plSt a b (i + 1)).1, ((i + 1 : Nat) : Int), ())) := fun c e => by
    have hcc : 0 ≤ c ∧ c < 65536 := by rw [e]; unfold plC; omega
    unfold plDE
    rw [Int.tmod_eq_emod_of_nonneg hcc.1, Int.tdiv_eq_ediv_of_nonneg hcc.1, w64 (c / 32768) (by omega), w64 ((i : Int) + 1) (by omega), if_pos (by rw [roomx, hl]; simp; omega), e]
    rfl
  have second : ∀ c : Int, c = (plSt a b i).1 + a.getD i 0 → plB2 (α := α) b (plSt a b i).2 c i = some (.cont ((plSt a b (i + 1)).2, (plSt a b (i + 1)).1, ((i + 1 : Nat) : Int), ())) := fun c e => by
    unfold plB2
    by_cases hlt : i < b.length
    · rw [decide_eq_true (by omega), cond_true, if_pos ⟨by omega, by omega⟩]
      refine fin _ ?_
      show IntKind.i64.wrap (c + b.getD i 0) = _
      rw [w64 _ (by omega), e]; rfl
    · rw [decide_eq_false (by omega), cond_false]
      refine fin _ ?_
      have : b.getD i 0 = 0 := by rw [List.getD_eq_getElem?_getD, List.getElem?_eq_none (by omega)]; rfl
      rw [e]; unfold plC; omega
  unfold plB1
  by_cases hlt : i < a.length
  · rw [decide_eq_true (by omega), cond_true, if_pos ⟨by omega, by omega⟩]
    refine second _ ?_
    show IntKind.i64.wrap ((plSt a b i).1 + a.getD i 0) = _
    rw [w64 _ (by omega)]
  · rw [decide_eq_false (by omega), cond_false]
    refine second _ ?_
    have : a.getD i 0 = 0 := by rw [List.getD_eq_getElem?_getD, List.getElem?_eq_none (by omega)]; rfl
    omega
theorem dg_last {n : Int} (h : 0 ≤ n) {i : Nat} (hi : i + 1 = (dg n).length) : 0 < (dg n).getD i 0 := by
  have hz : n ≠ 0 := fun e => by subst e; simp [dg_zero] at hi
  have h1 := dg_ge n h hz
  have h2 := vl_split (dg n) i (by omega)
  have h3 := vl_lt (low_take (low_dg n h) i)
  rw [vl_dg n h] at h2
  have h4 : (dg n).drop i = [(dg n).getD i 0] := by
    rw [List.drop_eq_getElem_cons (by omega), List.getD_eq_getElem?_getD, List.getElem?_eq_getElem (by omega), List.drop_of_length_le (by omega)]
    rfl
  rw [h4] at h2
  simp only [vl] at h2
  have h5 := (low_get (low_dg n h) i).1
  rcases Int.lt_or_le 0 ((dg n).getD i 0) with q | q
  · exact q
  · have : (dg n).getD i 0 = 0 := by omega
    rw [this] at h2
    rw [← hi, Nat.add_sub_cancel] at h1
    rw [List.length_take, Nat.min_eq_left (by omega)] at h3
    omega
theorem plusD_plain {α : Type} (a b : List Int) (ha : isD a = true) (hb : isD b = true) (k : AOut → Option α) : evFn real tab ((twT (fun _ => none) (fun _ => none)).env real tab 30 0) 30 Tryz.f71 α [lN a, lN b] k = k (l1 (dg (vl a + vl b))) := by
  rw [plusD_text]
  have la := isD_len ha
  have lb := isD_len hb
  have wa := isD_low ha
  have wb := isD_low hb
  rw [isD_iff] at ha hb
  generalize hf : (fun x : List Int × Int × Int × Unit => (_ : Option (LRes (List Int × Int × Int × Unit) α))) = f
  -- how many parts there are
  let n0 := max a.length b.length
  have hn0 : a.length ≤ n0 ∧ b.length ≤ n0 ∧ n0 ≤ 12 := ⟨Nat.le_max_left .., Nat.le_max_right .., by simp only [n0]; omega⟩
  have P := pl_is wa wb n0
  have hv := P.vl
  rw [List.take_of_length_le hn0.1, List.take_of_length_le hn0.2.1] at hv
  have hgo : ∀ i, i < n0 → f ((plSt a b i).2, (plSt a b i).1, (i : Int), ()) = some (.cont ((plSt a b (i + 1)).2, (plSt a b (i + 1)).1, ((i + 1 : Nat) : Int), ())) := fun i hi => by
    rw [← hf]
    dsimp only
    rw [plB_step wa wb (by omega)]
    have : i < a.length ∨ i < b.length := by simp only [n0] at hi; omega
    rcases this with h | h
    · rw [decide_eq_true (by omega), cond_true]
    · rw [decide_eq_true (show (i : Int) < (b.length : Int) by omega), cond_true]
      cases decide ((i : Int) < (a.length : Int)) <;> rfl
  have hend : ∀ n : Nat, n0 ≤ n → n ≤ 14 → (plSt a b n).1 = 0 → f ((plSt a b n).2, (plSt a b n).1, (n : Int), ()) = some (.brk 0 ((plSt a b n).2, (plSt a b n).1, (n : Int), ())) := fun n h1 h2 h3 => by
    rw [← hf]
    dsimp only
    rw [decide_eq_false (by omega), decide_eq_false (show ¬ (n : Int) < (b.length : Int) by omega), h3]
    rfl
  have hc := P.c
  by_cases hz : (plSt a b n0).1 = 0
  · have e : iterL 30 f ([], 0, 0, ()) = some (.brk 0 ((plSt a b n0).2, (plSt a b n0).1, (n0 : Int), ())) :=
      iterL_count (f := f) (fun i : Nat => ((plSt a b i).2, (plSt a b i).1, (i : Int), ())) (fun y e => by cases e) n0 hgo (hend n0 (Nat.le_refl _) (by omega) hz) 0 (Nat.zero_le _) 30 (by omega)
    have hres : (plSt a b n0).2 = dg (vl a + vl b) := by
      rw [hz, Int.zero_mul, Int.add_zero] at hv
      rw [← hv]
      rcases Nat.eq_zero_or_pos n0 with h0 | h0
      · have := P.len
        rw [h0] at this ⊢
        have hnil := List.eq_nil_of_length_eq_zero this
        rw [hnil]; rfl
      · obtain ⟨m, hm⟩ : ∃ m, n0 = m + 1 := ⟨n0 - 1, by omega⟩
        have Q := pl_is wa wb m
        rw [hm] at hz ⊢
        have hl := Q.len
        have hcc := Q.c
        have ga := low_get wa m
        have gb := low_get wb m
        have htop : 0 < a.getD m 0 ∨ 0 < b.getD m 0 := by
          have : m + 1 = a.length ∨ m + 1 = b.length := by simp only [n0] at hm; omega
          rcases this with h | h
          · left; have := dg_last ha.2.1 (i := m) (by rw [← ha.1]; exact h); rw [← ha.1] at this; exact this
          · right; have := dg_last hb.2.1 (i := m) (by rw [← hb.1]; exact h); rw [← hb.1] at this; exact this
        have hq : plC a b (plSt a b m) m / 32768 = 0 := hz
        have hpc : plC a b (plSt a b m) m = (plSt a b m).1 + a.getD m 0 + b.getD m 0 := rfl
        have hs : (plSt a b (m + 1)).2 = (plSt a b m).2 ++ [plC a b (plSt a b m) m % 32768] := rfl
        rw [hs, vl_append]
        exact (dg_snoc Q.low (by omega)).symm
    rw [e, hres]
    rfl
  · have h1 : (plSt a b n0).1 = 1 := by omega
    have ga : a.getD n0 0 = 0 := by rw [List.getD_eq_getElem?_getD, List.getElem?_eq_none (by omega)]; rfl
    have gb : b.getD n0 0 = 0 := by rw [List.getD_eq_getElem?_getD, List.getElem?_eq_none (by omega)]; rfl
    have hpc : plC a b (plSt a b n0) n0 = 1 := by unfold plC; omega
    have hs : plSt a b (n0 + 1) = (0, (plSt a b n0).2 ++ [1]) := by
      show (plC a b (plSt a b n0) n0 / 32768, (plSt a b n0).2 ++ [plC a b (plSt a b n0) n0 % 32768]) = _
      rw [hpc]; rfl
    have e : iterL 30 f ([], 0, 0, ()) = some (.brk 0 ((plSt a b (n0 + 1)).2, (plSt a b (n0 + 1)).1, ((n0 + 1 : Nat) : Int), ())) :=
      iterL_count (f := f) (fun i : Nat => ((plSt a b i).2, (plSt a b i).1, (i : Int), ())) (fun y e => by cases e) (n0 + 1) (fun i hi => by
        rcases Nat.lt_or_ge i n0 with h | h
        · exact hgo i h
        · have : i = n0 := by omega
          subst this
          rw [← hf]
          dsimp only
          rw [plB_step wa wb (by omega), decide_eq_false (by omega), decide_eq_false (show ¬ (n0 : Int) < (b.length : Int) by omega), h1]
          rfl) (hend (n0 + 1) (by omega) (by omega) (by rw [hs])) 0 (Nat.zero_le _) 30 (by omega)
    have hres : (plSt a b (n0 + 1)).2 = dg (vl a + vl b) := by
      rw [hs, ← hv, h1]
      have hl := P.len
      have := dg_snoc P.low (x := 1) (by omega)
      rw [hl] at this
      exact this.symm
    rw [e, hres]
    rfl
theorem plusDS_ok : FspOk Tryz.prog 71 plusDS := tower_S fs_nil sp_nil ⟨Tryz.func71, fun _ _ => by kernel_rfl⟩ (by intro α args k; unfold plusDS; split <;> simp only [cond_bind, Option.bind_some, Option.bind_none]) fun args out hs h => by
  unfold plusDS at h
  split at h
  · rename_i a b
    cases hb : isD a && isD b
    · rw [hb] at h; cases h
    · rw [hb] at h
      rw [Bool.and_eq_true] at hb
      exact ⟨30, 0, (plusD_plain a b hb.1 hb.2 some).trans h⟩
  · cases h
end Go.Proofs.YtfbiblmlcepdlaaGreat

namespace Go.Proofs.YtfbiblmlcepdlaaGreat
open Go.RowKit
def fnA : FuncId → Option Fsp := fun g =>
  if g = 48 then some ofS else
  if g = 74 then some trimS else
  if g = 76 then some numberS else
  if g = 69 then some orderS else
  if g = 71 then some plusDS else
  none
theorem fnA_ok : FsOk fnA :=
  fs_cons ofS_ok <|
  fs_cons trimS_ok <|
  fs_cons numberS_ok <|
  fs_cons orderS_ok <|
  fs_cons plusDS_ok <|
  fs_nil
def minusDS : Fsp := fun _ args k => match args with
  | [.ro (.int .i64) a, .ro (.int .i64) b] => bif isD a && isD b && decide (vl b ≤ vl a) then k (l1 (dg (vl a - vl b))) else none
  | _ => none
section
variable {α : Type}
def mnE (out : List Int) (d i : Int) : Option (LRes (Int × List Int × Int × Unit) α) :=
  bif decide (d < 0) then
    if (out.length + [IntKind.i64.wrap (d + 32768)].length) * 8 ≤ room then some (LRes.cont (1, out ++ [IntKind.i64.wrap (d + 32768)], IntKind.i64.wrap (i + 1), ())) else none
  else
    if (out.length + [d].length) * 8 ≤ room then some (LRes.cont (0, out ++ [d], IntKind.i64.wrap (i + 1), ())) else none
end
theorem minusD_text (N n0 : Nat) (α : Type) (a b : List Int) (k : AOut → Option α) : evFn real tab ((twT fnA (fun _ => none)).env real tab N n0) N Tryz.f101 α [lN a, lN b] k =
 afterL (iterL N (fun (x : Int × List Int × Int × Unit) => bif decide (x.2.2.1 < (a.length : Int)) then if 0 ≤ x.2.2.1 ∧ x.2.2.1 < (a.length : Int) then bif decide (x.2.2.1 <
 (b.length : Int)) then if 0 ≤ x.2.2.1 ∧ x.2.2.1 < (b.length : Int) then mnE x.2.1 (IntKind.i64.wrap (IntKind.i64.wrap (a.getD x.2.2.1.toNat (Int.ofNat 0) - x.1) - b.getD
 x.2.2.1.toNat (Int.ofNat 0))) x.2.2.1 else none else mnE x.2.1 (IntKind.i64.wrap (a.getD x.2.2.1.toNat (Int.ofNat 0) - x.1)) x.2.2.1 else none else some (LRes.brk 0 (x.1, x.2.1,
 x.2.2.1, ()))) (0, [], 0, ())) fun id y => if id = 0 then k (l1 (trimL y.2.1)) else none := by kernel_rfl
theorem minusD_plain {α : Type} (a b : List Int) (ha : isD a = true) (hb : isD b = true) (hab : vl b ≤ vl a) (k : AOut → Option α) : evFn real tab ((twT fnA (fun _ => none)).env real tab 30 0) 30 Tryz.f101 α [lN a, lN b] k = k (l1 (dg (vl a - vl b))) := by
  rw [minusD_text]
  have la := isD_len ha
  have lb := isD_len hb
  have wa := isD_low ha
  have wb := isD_low hb
  rw [isD_iff] at ha hb
  generalize hf : (fun x : Int × List Int × Int × Unit => (_ : Option (LRes (Int × List Int × Int × Unit) α))) = f
  have e : iterL 30 f (0, [], 0, ()) = some (.brk 0 ((mnSt a b a.length).1, (mnSt a b a.length).2, (a.length : Int), ())) := by
    refine iterL_count (f := f) (fun i : Nat => ((mnSt a b i).1, (mnSt a b i).2, (i : Int), ())) (fun y e => by cases e) a.length (fun i hi => ?_) ?_ 0 (Nat.zero_le _) 30 (by omega)
    · rw [← hf]
      have h := mn_is wa wb i
      have hl := h.len
      have hc := h.c
      have h2 := low_get wa i
      have h3 := low_get wb i
      have fin : ∀ d : Int, d = mnD a b (mnSt a b i) i → mnE (α := α) (mnSt a b i).2 d i = some (.cont ((mnSt a b (i + 1)).1, (mnSt a b (i + 1)).2, ((i + 1 : Nat) : Int), ())) := fun d e => by
        have hd : -32768 ≤ d ∧ d < 32768 := by rw [e]; unfold mnD; omega
        unfold mnE
        simp only [mnSt, ← e]
        by_cases hn : d < 0
        · rw [decide_eq_true hn, cond_true, w64 (d + 32768) (by omega), w64 ((i : Int) + 1) (by omega), if_pos (by rw [roomx, hl]; simp; omega), if_pos hn, if_pos hn]
          rfl
        · rw [decide_eq_false hn, cond_false, w64 ((i : Int) + 1) (by omega), if_pos (by rw [roomx, hl]; simp; omega), if_neg hn, if_neg hn]
          rfl
      dsimp only
      rw [decide_eq_true (by omega), cond_true, if_pos ⟨by omega, by omega⟩]
      by_cases hlt : i < b.length
      · rw [decide_eq_true (by omega), cond_true, if_pos ⟨by omega, by omega⟩]
        refine fin _ ?_
        show IntKind.i64.wrap (IntKind.i64.wrap (a.getD i 0 - (mnSt a b i).1) - b.getD i 0) = _
        rw [w64 (a.getD i 0 - _) (by omega), w64 _ (by omega)]; rfl
      · rw [decide_eq_false (by omega), cond_false]
        refine fin _ ?_
        have : b.getD i 0 = 0 := by rw [List.getD_eq_getElem?_getD, List.getElem?_eq_none (by omega)]; rfl
        show IntKind.i64.wrap (a.getD i 0 - (mnSt a b i).1) = _
        rw [w64 _ (by omega)]; unfold mnD; omega
    · rw [← hf]
      have h1 : decide ((a.length : Int) < (a.length : Int)) = false := decide_eq_false (by omega)
      simp only [h1, cond_false]
  have hm := mn_dg hb.2.1 hab
  rw [← ha.1, ← hb.1] at hm
  rw [e]
  show k (l1 (trimL (mnSt a b a.length).2)) = _
  rw [hm]
theorem minusDS_ok : FspOk Tryz.prog 101 minusDS := tower_S fnA_ok sp_nil ⟨Tryz.func101, fun _ _ => by kernel_rfl⟩ (by intro α args k; unfold minusDS; split <;> simp only [cond_bind, Option.bind_some, Option.bind_none]) fun args out hs h => by
  unfold minusDS at h
  split at h
  · rename_i a b
    cases hb : isD a && isD b && decide (vl b ≤ vl a)
    · rw [hb] at h; cases h
    · rw [hb] at h
      simp only [Bool.and_eq_true, decide_eq_true_eq] at hb
      exact ⟨30, 0, (minusD_plain a b hb.1.1 hb.1.2 hb.2 some).trans h⟩
  · cases h
/-! Products. -/
def timesDS : Fsp := fun _ args k => match args with
  | [.ro (.int .i64) a, .ro (.int .i64) b] => bif isD a && isD b then k (l1 (dg (vl a * vl b))) else none
  | _ => none
theorem timesD_text (N n0 : Nat) (α : Type) (a b : List Int) (k : AOut → Option α) : evFn real tab ((twT fnA (fun _ => none)).env real tab N n0) N Tryz.f47 α [lN a, lN b] k =
 if 0 ≤ IntKind.i64.wrap ((a.length : Int) + (b.length : Int)) ∧ IntKind.i64.wrap ((a.length : Int) + (b.length : Int)) ≤ IntKind.i64.wrap ((a.length : Int) + (b.length : Int)) ∧
 IntKind.i64.wrap ((a.length : Int) + (b.length : Int)) * ((8 : Nat) : Int) ≤ (room : Int) then afterL (iterL N (fun (x : Int × List Int × Unit) => bif decide (x.1 < (a.length :
 Int)) then afterL (iterL N (fun (y : Int × Int × List Int × Unit) => bif decide (y.2.1 < (b.length : Int)) then if 0 ≤ IntKind.i64.wrap (x.1 + y.2.1) ∧ IntKind.i64.wrap (x.1 +
 y.2.1) < (y.2.2.1.length : Int) then if 0 ≤ x.1 ∧ x.1 < (a.length : Int) then if 0 ≤ y.2.1 ∧ y.2.1 < (b.length : Int) then if 0 ≤ IntKind.i64.wrap (x.1 + y.2.1) ∧ IntKind.i64.wrap
 (x.1 + y.2.1) < (y.2.2.1.length : Int) then some (LRes.cont (IntKind.i64.wrap ((IntKind.i64.wrap (IntKind.i64.wrap (y.1 + y.2.2.1.getD (IntKind.i64.wrap (x.1 + y.2.1)).toNat
 (Int.ofNat 0)) + IntKind.i64.wrap (a.getD x.1.toNat (Int.ofNat 0) * b.getD y.2.1.toNat (Int.ofNat 0)))).tdiv 32768), IntKind.i64.wrap (y.2.1 + 1), y.2.2.1.set (IntKind.i64.wrap (x.1
 + y.2.1)).toNat ((IntKind.i64.wrap (IntKind.i64.wrap (y.1 + y.2.2.1.getD (IntKind.i64.wrap (x.1 + y.2.1)).toNat (Int.ofNat 0)) + IntKind.i64.wrap (a.getD x.1.toNat (Int.ofNat 0) *
 b.getD y.2.1.toNat (Int.ofNat 0)))).tmod 32768), ())) else none else none else none else none else some (LRes.brk 2 (y.1, y.2.1, y.2.2.1, ()))) (0, 0, x.2.1, ())) fun id y => if id
 = 2 then if 0 ≤ IntKind.i64.wrap (x.1 + (b.length : Int)) ∧ IntKind.i64.wrap (x.1 + (b.length : Int)) < (y.2.2.1.length : Int) then some (LRes.cont (IntKind.i64.wrap (x.1 + 1),
 y.2.2.1.set (IntKind.i64.wrap (x.1 + (b.length : Int))).toNat y.1, ())) else none else none else some (LRes.brk 0 (x.1, x.2.1, ()))) (0, List.replicate (IntKind.i64.wrap ((a.length
 : Int) + (b.length : Int))).toNat (Int.ofNat 0), ())) fun id y => if id = 0 then k (l1 (trimL y.2.1)) else none else none := by kernel_rfl
theorem timesD_plain {α : Type} (a b : List Int) (ha : isD a = true) (hb : isD b = true) (k : AOut → Option α) : evFn real tab ((twT fnA (fun _ => none)).env real tab 30 0) 30 Tryz.f47 α [lN a, lN b] k = k (l1 (dg (vl a * vl b))) := by
  rw [timesD_text]
  have la := isD_len ha
  have lb := isD_len hb
  have wa := isD_low ha
  have wb := isD_low hb
  rw [w64 ((a.length : Int) + (b.length : Int)) (by omega), if_pos ⟨by omega, by omega, by rw [roomx]; omega⟩]
  generalize hf : (fun x : Int × List Int × Unit => (_ : Option (LRes (Int × List Int × Unit) α))) = f
  have hrep : List.replicate ((a.length : Int) + (b.length : Int)).toNat (Int.ofNat 0) = outSt a b 0 := by
    rw [show ((a.length : Int) + (b.length : Int)).toNat = a.length + b.length by omega]; rfl
  rw [hrep]
  have e : iterL 30 f (0, outSt a b 0, ()) = some (.brk 0 ((a.length : Int), outSt a b a.length, ())) := by
    refine iterL_count (f := f) (fun i : Nat => ((i : Int), outSt a b i, ())) (fun y e => by cases e) a.length (fun i hi => ?_) ?_ 0 (Nat.zero_le _) 30 (by omega)
    · rw [← hf]
      have O := out_is wa wb i (by omega)
      have Ol := O.len
      dsimp only
      rw [decide_eq_true (by omega), cond_true]
      generalize hg : (fun y : Int × Int × List Int × Unit => (_ : Option (LRes (Int × Int × List Int × Unit) (LRes (Int × List Int × Unit) α)))) = g
      have e2 : iterL 30 g (0, 0, outSt a b i, ()) = some (.brk 2 ((inSt (a.getD i 0) b i (outSt a b i) b.length).1, (b.length : Int), (inSt (a.getD i 0) b i (outSt a b i) b.length).2, ())) := by
        refine iterL_count (f := g) (fun q : Nat => ((inSt (a.getD i 0) b i (outSt a b i) q).1, (q : Int), (inSt (a.getD i 0) b i (outSt a b i) q).2, ())) (fun y e => by cases e) b.length (fun q hq => ?_) ?_ 0 (Nat.zero_le _) 30 (by omega)
        · rw [← hg]
          have I := in_is (low_get wa i) wb O.low (i := i) (by omega) q (by omega)
          have Il := I.len
          have hc := inC_in (low_get wa i) wb I
          have h1 := I.c
          have h2 := low_get I.low (i + q)
          have h3 := low_get wb q
          have h4 := low_get wa i
          have h5 : 0 ≤ a.getD i 0 * b.getD q 0 := Int.mul_nonneg h4.1 h3.1
          have h6 : a.getD i 0 * b.getD q 0 ≤ 32767 * 32767 := Int.mul_le_mul (by omega) (by omega) h3.1 (by omega)
          have hcc : inC (a.getD i 0) b i (inSt (a.getD i 0) b i (outSt a b i) q) q = (inSt (a.getD i 0) b i (outSt a b i) q).1 + (inSt (a.getD i 0) b i (outSt a b i) q).2.getD (i + q) 0 + a.getD i 0 * b.getD q 0 := rfl
          dsimp only
          have hz : ((i : Int) + (q : Int)).toNat = i + q := by omega
          rw [decide_eq_true (by omega), cond_true, w64 ((i : Int) + (q : Int)) (by omega), hz, if_pos ⟨by omega, by omega⟩, if_pos ⟨by omega, by omega⟩, if_pos ⟨by omega, by omega⟩, if_pos ⟨by omega, by omega⟩]
          rw [show ((i : Int)).toNat = i from rfl, show ((q : Int)).toNat = q from rfl, show Int.ofNat 0 = 0 from rfl]
          rw [w64 ((inSt (a.getD i 0) b i (outSt a b i) q).1 + _) (by omega), w64 (a.getD i 0 * b.getD q 0) (by omega), ← hcc, w64 (inC _ _ _ _ _) (by omega), Int.tmod_eq_emod_of_nonneg hc.1, Int.tdiv_eq_ediv_of_nonneg hc.1, w64 (inC _ _ _ _ _ / 32768) (by omega), w64 ((q : Int) + 1) (by omega)]
          rfl
        · rw [← hg]
          have h1 : decide ((b.length : Int) < (b.length : Int)) = false := decide_eq_false (by omega)
          simp only [h1, cond_false]
      have I := in_is (low_get wa i) wb O.low (i := i) (by omega) b.length (Nat.le_refl _)
      have Il := I.len
      rw [e2]
      have hz : ((i : Int) + (b.length : Int)).toNat = i + b.length := by omega
      simp only [afterL]
      rw [if_pos trivial, w64 ((i : Int) + (b.length : Int)) (by omega), hz, w64 ((i : Int) + 1) (by omega)]
      rw [if_pos ⟨by omega, by show _ < ((inSt (a.getD i 0) b i (outSt a b i) b.length).2.length : Int); omega⟩]
      rfl
    · rw [← hf]
      have h1 : decide ((a.length : Int) < (a.length : Int)) = false := decide_eq_false (by omega)
      simp only [h1, cond_false]
  rw [e]
  show k (l1 (trimL (outSt a b a.length))) = _
  rw [out_dg (isD_isDg ha) (isD_isDg hb)]
theorem timesDS_ok : FspOk Tryz.prog 47 timesDS := tower_S fnA_ok sp_nil ⟨Tryz.func47, fun _ _ => by kernel_rfl⟩ (by intro α args k; unfold timesDS; split <;> simp only [cond_bind, Option.bind_some, Option.bind_none]) fun args out hs h => by
  unfold timesDS at h
  split at h
  · rename_i a b
    cases hb : isD a && isD b
    · rw [hb] at h; cases h
    · rw [hb] at h
      rw [Bool.and_eq_true] at hb
      exact ⟨30, 0, (timesD_plain a b hb.1 hb.2 some).trans h⟩
  · cases h
end Go.Proofs.YtfbiblmlcepdlaaGreat

namespace Go.Proofs.YtfbiblmlcepdlaaGreat
open Go.RowKit
def fnB : FuncId → Option Fsp := fun g =>
  if g = 101 then some minusDS else
  if g = 47 then some timesDS else
  fnA g
theorem fnB_ok : FsOk fnB :=
  fs_cons minusDS_ok <|
  fs_cons timesDS_ok <|
  fnA_ok
noncomputable def twZ (fs : FuncId → Option Fsp) (sp : FuncId → Option (Cv → Cv)) : Tower := ⟨fs, fun f => f != 999979, sp, lookF fnsT⟩
theorem tower_Z {fs : FuncId → Option Fsp} {sp : FuncId → Option (Cv → Cv)} (h : FsOk fs) (hs : SpOk sp) {f : FuncId} {fn : Func} (hf : FnOk Tryz.prog f fn) {S : Fsp}
    (hn : ∀ (α : Type) args (k : AOut → Option α), S α args k = (S AOut args some).bind k)
    (hS : ∀ args out, (∀ c ∈ args, Sm c) → S AOut args some = some out → ∃ N n, evFn real tab ((twZ fs sp).env real tab N n) N fn AOut args some = some out) : FspOk Tryz.prog f S where
  enter := hf.enter
  nat := hn
  calls := fun args out hout M w cargs hM hl hr => by
    have hsm : ∀ c ∈ args, Sm c := fun c hc => by
      obtain ⟨j, hj, rfl⟩ := List.mem_iff_getElem.1 hc
      exact (hr j _ _ (List.getElem?_eq_getElem hj) (Array.getElem?_eq_getElem (by omega))).sm
    obtain ⟨N, n, hN⟩ := hS args out hsm hout
    exact (fn_ok mixedT tabOk (tower_ok mixedT tabOk (tw := twZ fs sp) ⟨h, hs, look_ok fnsT_ok⟩ N n) N hf.get hf.enter).calls args out hN M w cargs hM hl hr
theorem bit_searchK {α : Type} {f : Int × Int × Unit → Option (LRes (Int × Int × Unit) α)} (bid : Nat) (p : Nat → Bool) (K : Nat)
    (hf : ∀ n k, n % 2 ^ (k + 1) = 0 → n + 2 ^ (k + 1) ≤ 2 ^ K → p n = true → f ((n : Int), ((2 ^ k : Nat) : Int), ()) = some (.cont (((bif p (n + 2 ^ k) then n + 2 ^ k else n : Nat) : Int), ((2 ^ k / 2 : Nat) : Int), ())))
    (hend : ∀ n : Nat, f ((n : Int), 0, ()) = some (.brk bid ((n : Int), 0, ()))) :
    ∀ (k : Nat) (n : Nat), n % 2 ^ k = 0 → n + 2 ^ k ≤ 2 ^ K → p n = true → ∀ N, k < N → iterL N f ((n : Int), ((2 ^ k / 2 : Nat) : Int), ()) = some (.brk bid (((bs p k n : Nat) : Int), 0, ()))
  | 0, n, h1, h2, h3, N, hN => by
    obtain ⟨N, rfl⟩ : ∃ M, N = M + 1 := ⟨N - 1, by omega⟩
    have e : (((2 ^ 0 / 2 : Nat)) : Int) = 0 := rfl
    rw [e]
    simp only [iterL, hend]
    rfl
  | k + 1, n, h1, h2, h3, N, hN => by
    obtain ⟨N, rfl⟩ : ∃ M, N = M + 1 := ⟨N - 1, by omega⟩
    have e0 : 2 ^ (k + 1) / 2 = 2 ^ k := by rw [Nat.pow_succ]; omega
    have e1 : 2 ^ (k + 1) = 2 ^ k + 2 ^ k := by rw [Nat.pow_succ]; omega
    have hd : n % 2 ^ k = 0 := by
      have : (n % 2 ^ (k + 1)) % 2 ^ k = n % 2 ^ k := Nat.mod_mod_of_dvd _ ⟨2, by rw [Nat.pow_succ]⟩
      rw [h1] at this
      simpa using this.symm
    have hf' := hf n k h1 h2 h3
    rw [e0]
    simp only [iterL, hf', bs]
    cases hp : p (n + 2 ^ k)
    · exact bit_searchK bid p K hf hend k n hd (by omega) h3 N (by omega)
    · exact bit_searchK bid p K hf hend k (n + 2 ^ k) (by rw [Nat.add_mod_right]; exact hd) (by omega) hp N (by omega)
theorem cmp3_ge {a b : Int} : (cmp3 a b ≥ 0) ↔ b ≤ a := by
  unfold cmp3
  repeat' split
  all_goals omega
theorem cmp3_le0 {a b : Int} : (cmp3 a b ≤ 0) ↔ a ≤ b := by
  unfold cmp3
  repeat' split
  all_goals omega
def ovB (a b : List Int) : Bool := isD a && isD b && decide (0 < vl b) && decide (vl b < 46768052394588893382517914646921056628989841375232)
def overDS : Fsp := fun _ args k => match args with
  | [.ro (.int .i64) a, .ro (.int .i64) b] => bif ovB a b then k (.ret (.tup [lN (dg (vl a / vl b)), lN (dg (vl a % vl b))])) else none
  | _ => none
section
variable {α : Type} (N : Nat) (b R : List Int)
def ovIn (K : Int → Option α) : Option α :=
  afterL
    (iterL N
      (fun (y : Int × Int × Unit) =>
        bif decide (y.2.1 > 0) then
          bif isD R && isD b then
            bif decide (cmp3 (vl R) (vl b) ≥ 0) then
              bif decide (0 ≤ IntKind.i64.wrap (y.1 + y.2.1)) && decide (IntKind.i64.wrap (y.1 + y.2.1) ≤ 9223372036854775807) then
                bif isD b && isD (dg (IntKind.i64.wrap (y.1 + y.2.1))) then
                  bif isD (dg (vl b * vl (dg (IntKind.i64.wrap (y.1 + y.2.1))))) && isD R then
                    bif decide (cmp3 (vl (dg (vl b * vl (dg (IntKind.i64.wrap (y.1 + y.2.1)))))) (vl R) ≤ 0) then
                      some (LRes.cont (IntKind.i64.wrap (y.1 + y.2.1), IntKind.i64.wrap (y.2.1.tdiv 2), ()))
                    else some (LRes.cont (y.1, IntKind.i64.wrap (y.2.1.tdiv 2), ()))
                  else none
                else none
              else none
            else some (LRes.brk 2 (y.1, y.2.1, ()))
          else none
        else some (LRes.brk 2 (y.1, y.2.1, ())))
      (0, 16384, ()))
    fun id y => if id = 2 then K y.1 else none
end
theorem over_text (N n0 : Nat) (α : Type) (a b : List Int) (k : AOut → Option α) : evFn real tab ((twZ fnB (fun _ => none)).env real tab N n0) N Tryz.f75 α [lN a, lN b] k =
 if 0 ≤ (a.length : Int) ∧ (a.length : Int) ≤ (a.length : Int) ∧ (a.length : Int) * ((8 : Nat) : Int) ≤ (room : Int) then afterL (iterL N (fun (x : List Int × Int × List Int × Unit)
 => bif decide (x.2.1 ≥ 0) then if 0 ≤ x.2.1 ∧ x.2.1 < (a.length : Int) then if ([a.getD x.2.1.toNat (Int.ofNat 0)].length + x.1.length) * 8 ≤ room then ovIn N b (trimL ([a.getD
 x.2.1.toNat (Int.ofNat 0)] ++ x.1)) fun y => if 0 ≤ x.2.1 ∧ x.2.1 < (x.2.2.1.length : Int) then bif decide (0 ≤ y) && decide (y ≤ 9223372036854775807) then bif isD b && isD (dg y)
 then bif isD (trimL ([a.getD x.2.1.toNat (Int.ofNat 0)] ++ x.1)) && isD (dg (vl b * vl (dg y))) && decide (vl (dg (vl b * vl (dg y))) ≤ vl (trimL ([a.getD x.2.1.toNat (Int.ofNat 0)]
 ++ x.1))) then some (LRes.cont (dg (vl (trimL ([a.getD x.2.1.toNat (Int.ofNat 0)] ++ x.1)) - vl (dg (vl b * vl (dg y)))), IntKind.i64.wrap (x.2.1 - 1), x.2.2.1.set x.2.1.toNat y,
 ())) else none else none else none else none else none else none else some (LRes.brk 0 (x.1, x.2.1, x.2.2.1, ()))) ([], IntKind.i64.wrap ((a.length : Int) - 1), List.replicate
 (a.length : Int).toNat (Int.ofNat 0), ())) fun id y => if id = 0 then k (.ret (.tup [lN (trimL y.2.2.1), lN y.1])) else none else none := by kernel_rfl
theorem ovIn_plain {α : Type} {b R : List Int} (hR : isD R = true) (hb : isD b = true) (h0 : 0 < vl b) (h1 : vl b < 46768052394588893382517914646921056628989841375232) (h2 : vl R < 32768 * vl b) (K : Int → Option α) : ovIn 30 b R K = K (vl R / vl b) := by
  unfold ovIn
  generalize hf : (fun y : Int × Int × Unit => (_ : Option (LRes (Int × Int × Unit) α))) = f
  have hR0 := (isD_iff.1 hR).2.1
  by_cases hge : vl b ≤ vl R
  · have e := bit_searchK (f := f) 2 (fun m => decide (vl b * m ≤ vl R)) 15 (fun n k a1 a2 a3 => ?_) (fun n => ?_) 15 0 rfl (by omega) (by simp; exact hR0) 30 (by omega)
    · have e' : iterL 30 f (0, 16384, ()) = some (.brk 2 (((bs (fun m => decide (vl b * m ≤ vl R)) 15 0 : Nat) : Int), 0, ())) := e
      rw [e']
      have hq0 : 0 ≤ vl R / vl b := Int.ediv_nonneg hR0 (Int.le_of_lt h0)
      have hq := Int.emod_add_mul_ediv (vl R) (vl b)
      have hr0 := Int.emod_nonneg (vl R) (show vl b ≠ 0 by omega)
      have hr1 := Int.emod_lt_of_pos (vl R) h0
      have hbs : (vl R / vl b).toNat = bs (fun m => decide (vl b * m ≤ vl R)) 15 0 := bs_eq _ (fun m n hnm hm => by
          simp only [decide_eq_true_eq] at hm ⊢
          have := Int.mul_le_mul_of_nonneg_left (show (n : Int) ≤ m by omega) (Int.le_of_lt h0)
          omega) (by simp; exact hR0) (by simp; omega) (by
          simp only [decide_eq_true_eq]
          rw [show (((vl R / vl b).toNat : Nat) : Int) = vl R / vl b by omega]; omega) (by
          simp only [decide_eq_false_iff_not]
          rw [show ((((vl R / vl b).toNat + 1 : Nat)) : Int) = vl R / vl b + 1 by omega, Int.mul_add]; omega)
      rw [← hbs]
      show K (((vl R / vl b).toNat : Nat) : Int) = _
      rw [show (((vl R / vl b).toNat : Nat) : Int) = vl R / vl b by omega]
    · rw [← hf]
      have p15 : (2 : Nat) ^ 15 = 32768 := rfl
      have hk : 2 ^ (k + 1) = 2 ^ k + 2 ^ k := by rw [Nat.pow_succ]; omega
      have hpos : 0 < 2 ^ k := Nat.two_pow_pos k
      have hw : IntKind.i64.wrap ((n : Int) + ((2 ^ k : Nat) : Int)) = ((n + 2 ^ k : Nat) : Int) := by rw [w64 _ (by omega)]; omega
      have hsh : IntKind.i64.wrap ((((2 ^ k : Nat) : Int)).tdiv 2) = ((2 ^ k / 2 : Nat) : Int) := by
        rw [Int.tdiv_eq_ediv_of_nonneg (by omega), w64 _ (by omega)]; omega
      have m0 : 0 ≤ vl b * ((n + 2 ^ k : Nat) : Int) := Int.mul_nonneg (by omega) (by omega)
      have m1 : vl b * ((n + 2 ^ k : Nat) : Int) ≤ vl b * 32768 := Int.mul_le_mul_of_nonneg_left (by omega) (by omega)
      dsimp only
      rw [decide_eq_true (show ((2 ^ k : Nat) : Int) > 0 by omega), hR, hb, decide_eq_true (cmp3_ge.2 hge), hw, hsh, decide_eq_true (show 0 ≤ ((n + 2 ^ k : Nat) : Int) by omega), decide_eq_true (show ((n + 2 ^ k : Nat) : Int) ≤ 9223372036854775807 by omega), isD_dg (n := ((n + 2 ^ k : Nat) : Int)) ⟨by omega, by omega⟩, vl_dg _ (show 0 ≤ ((n + 2 ^ k : Nat) : Int) by omega), isD_dg ⟨m0, by omega⟩, vl_dg _ m0]
      simp only [Bool.and_self, cond_true]
      by_cases hp : vl b * ((n + 2 ^ k : Nat) : Int) ≤ vl R
      · rw [decide_eq_true (cmp3_le0.2 hp), decide_eq_true hp]; rfl
      · rw [decide_eq_false (fun c => hp (cmp3_le0.1 c)), decide_eq_false hp]; rfl
    · rw [← hf]
      rfl
  · have hstop : f (0, 16384, ()) = some (.brk 2 (0, 16384, ())) := by
      rw [← hf]
      dsimp only
      rw [hR, hb, decide_eq_false (fun c => hge (cmp3_ge.1 c))]
      rfl
    have e : iterL 30 f (0, 16384, ()) = some (.brk 2 (0, 16384, ())) := by simp only [iterL, hstop]
    rw [e, Int.ediv_eq_zero_of_lt hR0 (by omega)]
    rfl
def qSt (a : List Int) (B : Int) : Nat → List Int
  | 0 => List.replicate a.length 0
  | j + 1 => (qSt a B j).set (a.length - 1 - j) ((a.getD (a.length - 1 - j) 0 + 32768 * (vl (a.drop (a.length - j)) % B)) / B)
theorem drop_step {a : List Int} {j : Nat} (hj : j < a.length) : a.drop (a.length - (j + 1)) = a.getD (a.length - 1 - j) 0 :: a.drop (a.length - j) := by
  have hlt : a.length - 1 - j < a.length := by omega
  rw [show a.length - (j + 1) = a.length - 1 - j by omega, List.drop_eq_getElem_cons hlt, List.getD_eq_getElem?_getD, List.getElem?_eq_getElem hlt, show a.length - 1 - j + 1 = a.length - j by omega]
  rfl
structure QIs (a : List Int) (B : Int) (j : Nat) : Prop where
  len : (qSt a B j).length = a.length
  low : low15 (qSt a B j)
  vl : vl ((qSt a B j).drop (a.length - j)) = vl (a.drop (a.length - j)) / B
theorem part_in {a : List Int} {B : Int} (ha : low15 a) (hB : 0 < B) (j : Nat) : 0 ≤ a.getD (a.length - 1 - j) 0 + 32768 * (vl (a.drop (a.length - j)) % B) ∧ a.getD (a.length - 1 - j) 0 + 32768 * (vl (a.drop (a.length - j)) % B) < 32768 * B := by
  have h1 := low_get ha (a.length - 1 - j)
  have h2 := Int.emod_nonneg (vl (a.drop (a.length - j))) (show B ≠ 0 by omega)
  have h3 := Int.emod_lt_of_pos (vl (a.drop (a.length - j))) hB
  omega
theorem q_is {a : List Int} {B : Int} (ha : low15 a) (hB : 0 < B) : ∀ j, j ≤ a.length → QIs a B j
  | 0, _ => ⟨by simp [qSt], fun x hx => by simp [qSt] at hx; omega, by simp [qSt, vl]⟩
  | j + 1, hj => by
    have h := q_is ha hB j (by omega)
    have hp := part_in ha hB j
    have hl := h.len
    have hd : 0 ≤ (a.getD (a.length - 1 - j) 0 + 32768 * (vl (a.drop (a.length - j)) % B)) / B ∧ (a.getD (a.length - 1 - j) 0 + 32768 * (vl (a.drop (a.length - j)) % B)) / B < 32768 :=
      ⟨Int.ediv_nonneg hp.1 (Int.le_of_lt hB), Int.ediv_lt_of_lt_mul hB (by omega)⟩
    refine ⟨by simp [qSt, hl], low_set h.low hd, ?_⟩
    have hq : (qSt a B (j + 1)).length = a.length := by simp [qSt, hl]
    have h4 : (qSt a B (j + 1)).drop (a.length - (j + 1)) = (a.getD (a.length - 1 - j) 0 + 32768 * (vl (a.drop (a.length - j)) % B)) / B :: (qSt a B j).drop (a.length - j) := by
      rw [← hq, drop_step (by omega), hq]
      congr 1
      · simp only [qSt]
        rw [List.getD_eq_getElem?_getD, List.getElem?_set_self (by omega)]; rfl
      · simp only [qSt]
        rw [List.drop_set_of_lt (by omega)]
    rw [h4, drop_step (by omega)]
    simp only [vl]
    rw [h.vl]
    generalize a.getD (a.length - 1 - j) 0 = d
    have e := Int.emod_add_mul_ediv (vl (a.drop (a.length - j))) B
    generalize vl (a.drop (a.length - j)) / B = q at *
    generalize vl (a.drop (a.length - j)) % B = r at *
    rw [← e, show d + 32768 * (r + B * q) = d + 32768 * r + B * (32768 * q) by rw [Int.mul_add, Int.mul_left_comm]; omega, Int.add_mul_ediv_left _ _ (by omega)]
theorem rest_step {a : List Int} {B : Int} (hB : 0 < B) {j : Nat} (hj : j < a.length) : vl (a.drop (a.length - (j + 1))) % B = (a.getD (a.length - 1 - j) 0 + 32768 * (vl (a.drop (a.length - j)) % B)) % B := by
  rw [drop_step hj]
  simp only [vl]
  have e := Int.emod_add_mul_ediv (vl (a.drop (a.length - j))) B
  generalize a.getD (a.length - 1 - j) 0 = d
  generalize vl (a.drop (a.length - j)) / B = q at *
  generalize vl (a.drop (a.length - j)) % B = r at *
  rw [← e, show d + 32768 * (r + B * q) = d + 32768 * r + B * (32768 * q) by rw [Int.mul_add, Int.mul_left_comm]; omega, Int.add_mul_emod_self_left]
theorem over_plain {α : Type} (a b : List Int) (h : ovB a b = true) (k : AOut → Option α) : evFn real tab ((twZ fnB (fun _ => none)).env real tab 30 0) 30 Tryz.f75 α [lN a, lN b] k = k (.ret (.tup [lN (dg (vl a / vl b)), lN (dg (vl a % vl b))])) := by
  rw [over_text]
  simp only [ovB, Bool.and_eq_true, decide_eq_true_eq] at h
  obtain ⟨⟨⟨ha, hb⟩, hB0⟩, hB1⟩ := h
  have la := isD_len ha
  have wa := isD_low ha
  have ha' := isD_iff.1 ha
  rw [if_pos ⟨by omega, by omega, by rw [roomx]; omega⟩]
  generalize hf : (fun x : List Int × Int × List Int × Unit => (_ : Option (LRes (List Int × Int × List Int × Unit) α))) = f
  have e : iterL 30 f ([], IntKind.i64.wrap ((a.length : Int) - 1), List.replicate (a.length : Int).toNat (Int.ofNat 0), ()) = some (.brk 0 (dg (vl a % vl b), -1, qSt a (vl b) a.length, ())) := by
    refine (congrArg (iterL 30 f) ?_).trans (iterL_count (f := f) (fun j : Nat => (dg (vl (a.drop (a.length - j)) % vl b), (a.length : Int) - 1 - j, qSt a (vl b) j, ())) (fun y e => by cases e) a.length (fun j hj => ?_) ?_ 0 (Nat.zero_le _) 30 (by omega))
    · rw [w64 _ (by omega)]
      simp [vl, dg_zero, qSt]
    · rw [← hf]
      have hi : ((a.length : Int) - 1 - j).toNat = a.length - 1 - j := by omega
      have hp := part_in wa hB0 j
      have Q := q_is wa hB0 j (by omega)
      have Ql := Q.len
      have r0 := Int.emod_nonneg (vl (a.drop (a.length - j))) (show vl b ≠ 0 by omega)
      have r1 := Int.emod_lt_of_pos (vl (a.drop (a.length - j))) hB0
      have rl := dg_len (n := vl (a.drop (a.length - j)) % vl b) ⟨r0, by omega⟩
      have hd := low_get wa (a.length - 1 - j)
      have hlow : low15 (a.getD (a.length - 1 - j) 0 :: dg (vl (a.drop (a.length - j)) % vl b)) := fun z hz => by
        rcases List.mem_cons.1 hz with rfl | hz
        · exact hd
        · exact low_dg _ r0 z hz
      have hT : trimL ([a.getD (a.length - 1 - j) 0] ++ dg (vl (a.drop (a.length - j)) % vl b)) = dg (a.getD (a.length - 1 - j) 0 + 32768 * (vl (a.drop (a.length - j)) % vl b)) := by
        rw [List.singleton_append, trim_dg hlow]
        simp only [vl, vl_dg _ r0]
      have hR := isD_dg (n := a.getD (a.length - 1 - j) 0 + 32768 * (vl (a.drop (a.length - j)) % vl b)) ⟨hp.1, by omega⟩
      have hv := vl_dg _ hp.1
      dsimp only
      rw [decide_eq_true (by omega), cond_true, hi, show Int.ofNat 0 = 0 from rfl, if_pos ⟨by omega, by omega⟩, if_pos (by rw [roomx]; simp; omega), hT, ovIn_plain hR hb hB0 hB1 (by rw [hv]; exact hp.2), hv, if_pos ⟨by omega, by omega⟩]
      have hst := rest_step (a := a) hB0 hj
      have hq : qSt a (vl b) (j + 1) = (qSt a (vl b) j).set (a.length - 1 - j) ((a.getD (a.length - 1 - j) 0 + 32768 * (vl (a.drop (a.length - j)) % vl b)) / vl b) := rfl
      rw [hst, hq]
      generalize a.getD (a.length - 1 - j) 0 + 32768 * (vl (a.drop (a.length - j)) % vl b) = R at *
      have q0 : 0 ≤ R / vl b := Int.ediv_nonneg hp.1 (Int.le_of_lt hB0)
      have q1 : R / vl b < 32768 := Int.ediv_lt_of_lt_mul hB0 (by omega)
      have eq := Int.emod_add_mul_ediv R (vl b)
      have s0 := Int.emod_nonneg R (show vl b ≠ 0 by omega)
      have m0 : 0 ≤ vl b * (R / vl b) := Int.mul_nonneg (by omega) q0
      rw [decide_eq_true q0, decide_eq_true (show R / vl b ≤ 9223372036854775807 by omega), hb, isD_dg (n := R / vl b) ⟨q0, by omega⟩, vl_dg _ q0, hR, isD_dg (n := vl b * (R / vl b)) ⟨m0, by omega⟩, vl_dg _ m0, decide_eq_true (show vl b * (R / vl b) ≤ R by omega), w64 _ (by omega)]
      simp only [Bool.and_self, cond_true]
      rw [show R - vl b * (R / vl b) = R % vl b by omega, show (a.length : Int) - 1 - j - 1 = (a.length : Int) - 1 - ((j + 1 : Nat) : Int) by omega]
    · rw [← hf]
      simp only [decide_eq_false (show ¬ (a.length : Int) - 1 - a.length ≥ 0 by omega), cond_false, Nat.sub_self, List.drop_zero]
      rw [show (a.length : Int) - 1 - a.length = -1 by omega]
  have Q := q_is wa hB0 a.length (Nat.le_refl _)
  have Qv := Q.vl
  rw [Nat.sub_self, List.drop_zero, List.drop_zero] at Qv
  rw [e]
  show k (.ret (.tup [lN (trimL (qSt a (vl b) a.length)), lN (dg (vl a % vl b))])) = _
  rw [trim_dg Q.low, Qv]
theorem overDS_ok : FspOk Tryz.prog 75 overDS := tower_Z fnB_ok sp_nil ⟨Tryz.func75, fun _ _ => by kernel_rfl⟩ (by intro α args k; unfold overDS; split <;> simp only [cond_bind, Option.bind_some, Option.bind_none]) fun args out hs h => by
  unfold overDS at h
  split at h
  · rename_i a b
    cases hb : ovB a b
    · rw [hb] at h; cases h
    · rw [hb] at h
      exact ⟨30, 0, (over_plain a b hb some).trans h⟩
  · cases h
end Go.Proofs.YtfbiblmlcepdlaaGreat

namespace Go.Proofs.YtfbiblmlcepdlaaGreat
open Go.RowKit
def fnC : FuncId → Option Fsp := fun g =>
  if g = 75 then some overDS else
  fnB g
theorem fnC_ok : FsOk fnC :=
  fs_cons overDS_ok <|
  fnB_ok
def i7 (x : Int) : Bool := decide (-9223372036854775807 ≤ x) && decide (x ≤ 9223372036854775807)
theorem i7_iff {x : Int} : i7 x = true ↔ -9223372036854775807 ≤ x ∧ x ≤ 9223372036854775807 := by simp [i7]
theorem i7_ok {x : Int} (h : okB x = true) : i7 x = true := by rw [ok_iff] at h; rw [i7_iff]; omega
theorem i7_ab {x : Int} (h : i7 x = true) : 0 ≤ ab x ∧ ab x ≤ 9223372036854775807 := by rw [i7_iff] at h; unfold ab; split <;> omega
def rsizeS : Fsp := fun _ args k => match args with
  | [.int .i64 x] => bif i7 x then k (i1 (ab x)) else none
  | _ => none
theorem rsize_text (N n0 : Nat) (α : Type) (x : Int) (k : AOut → Option α) : evFn real tab ((twT fnC (fun _ => none)).env real tab N n0) N Tryz.f49 α [iN x] k = bif decide (x < 0) then k (i1 (IntKind.i64.wrap (0 - x))) else k (i1 x) := by kernel_rfl
theorem rsizeS_ok : FspOk Tryz.prog 49 rsizeS := tower_S fnC_ok sp_nil ⟨Tryz.func49, fun _ _ => by kernel_rfl⟩ (by intro α args k; unfold rsizeS; split <;> simp only [cond_bind, Option.bind_some, Option.bind_none]) fun args out hs h => by
  unfold rsizeS at h
  split at h
  · rename_i x
    cases hb : i7 x
    · rw [hb] at h; cases h
    · rw [hb, cond_true] at h
      rw [i7_iff] at hb
      refine ⟨1, 0, (rsize_text 1 0 AOut x some).trans (Eq.trans ?_ h)⟩
      unfold ab
      by_cases hx : x < 0
      · rw [decide_eq_true hx, cond_true, if_pos hx, w64 _ (by omega), Int.zero_sub]
      · rw [decide_eq_false hx, cond_false, if_neg hx]
  · cases h
def rdQ (a b : List Int) : Int := bif smB (vl a / vl b) then vl a / vl b else 0
def rdN (a b : List Int) (m : Bool) (how : Int) : Int := sg m (rdQ a b + (bif up1 how m (vl a % vl b) (vl b) then 1 else 0))
def roundS : Fsp := fun _ args k => match args with
  | [.ro (.int .i64) a, .ro (.int .i64) b, .bool m, .int .i64 how] => bif ovB a b && wayB how then k (.ret (.tup [iN (rdN a b m how), bN (smB (vl a / vl b))])) else none
  | _ => none
section
variable {α : Type}
def rdOut (m : Bool) (n : Int) (s : Bool) (k : AOut → Option α) : Option α :=
  bif m then k (.ret (.tup [iN (IntKind.i64.wrap (0 - n)), bN s])) else k (.ret (.tup [iN n, bN s]))
def rdMore (a b : List Int) (m : Bool) (k : AOut → Option α) : Option α :=
  bif decide (((dg (vl a % vl b)).length : Int) > 0) then rdOut m (IntKind.i64.wrap ((bif smB (vl (dg (vl a / vl b))) then vl (dg (vl a / vl b)) else 0) + 1)) (smB (vl (dg (vl a / vl b)))) k
  else rdOut m (bif smB (vl (dg (vl a / vl b))) then vl (dg (vl a / vl b)) else 0) (smB (vl (dg (vl a / vl b)))) k
def rdLess (a b : List Int) (m : Bool) (k : AOut → Option α) : Option α :=
  rdOut m (bif smB (vl (dg (vl a / vl b))) then vl (dg (vl a / vl b)) else 0) (smB (vl (dg (vl a / vl b)))) k
def rdText (M : Option α) (a b : List Int) : Option α :=
  bif ovB a b then bif isD (dg (vl a / vl b)) then M else none else none
end
theorem round0_text (N n0 : Nat) (α : Type) (a b : List Int) (m : Bool) (k : AOut → Option α) : evFn real tab ((twT fnC (fun _ => none)).env real tab N n0) N Tryz.f50 α [lN a, lN b, .bool m, iN 0] k = rdText (rdLess a b m k) a b := by kernel_rfl
theorem round1_text (N n0 : Nat) (α : Type) (a b : List Int) (m : Bool) (k : AOut → Option α) : evFn real tab ((twT fnC (fun _ => none)).env real tab N n0) N Tryz.f50 α [lN a, lN b, .bool m, iN 1] k = rdText (bif m then rdMore a b m k else rdLess a b m k) a b := by kernel_rfl
theorem round2_text (N n0 : Nat) (α : Type) (a b : List Int) (m : Bool) (k : AOut → Option α) : evFn real tab ((twT fnC (fun _ => none)).env real tab N n0) N Tryz.f50 α [lN a, lN b, .bool m, iN 2] k = rdText (bif !m then rdMore a b m k else rdLess a b m k) a b := by kernel_rfl
theorem round3_text (N n0 : Nat) (α : Type) (a b : List Int) (m : Bool) (k : AOut → Option α) : evFn real tab ((twT fnC (fun _ => none)).env real tab N n0) N Tryz.f50 α [lN a, lN b, .bool m, iN 3] k =
 rdText (bif isD (dg (vl a % vl b)) && isD (dg (vl a % vl b)) then bif isD (dg (vl (dg (vl a % vl b)) + vl (dg (vl a % vl b)))) && isD b then bif decide (cmp3 (vl (dg (vl (dg (vl a %
 vl b)) + vl (dg (vl a % vl b))))) (vl b) ≥ 0) then rdMore a b m k else rdLess a b m k else none else none) a b := by kernel_rfl
structure OvIs (a b : List Int) : Prop where
  q : 0 ≤ vl a / vl b ∧ vl a / vl b < 1532495540865888858358347027150309183618739122183602176
  r : 0 ≤ vl a % vl b ∧ vl a % vl b < vl b
  bb : vl b < 46768052394588893382517914646921056628989841375232
  db : isD b = true
theorem ov_is {a b : List Int} (h : ovB a b = true) : OvIs a b := by
  simp only [ovB, Bool.and_eq_true, decide_eq_true_eq] at h
  obtain ⟨⟨⟨ha, hb⟩, h0⟩, h1⟩ := h
  have ha := isD_iff.1 ha
  exact ⟨⟨Int.ediv_nonneg ha.2.1 (Int.le_of_lt h0), by have := Int.ediv_le_self (vl b) ha.2.1; omega⟩, ⟨Int.emod_nonneg _ (by omega), Int.emod_lt_of_pos _ h0⟩, h1, hb⟩
theorem sm_le {n : Int} : (bif smB n then n else 0) ≤ 1152921504606846975 := by
  unfold smB
  by_cases h : n < 1152921504606846976
  · rw [decide_eq_true h]; simp only [cond_true]; omega
  · rw [decide_eq_false h]; simp
theorem sm_nn {n : Int} (h : 0 ≤ n) : 0 ≤ (bif smB n then n else 0) := by cases smB n <;> simp <;> omega
theorem rdOut_eq {α : Type} {n : Int} (m s : Bool) (h : 0 ≤ n ∧ n ≤ 1152921504606846976) (k : AOut → Option α) : rdOut m n s k = k (.ret (.tup [iN (sg m n), bN s])) := by
  unfold rdOut sg
  cases m
  · rfl
  · rw [cond_true, cond_true, w64 _ (by omega), Int.zero_sub]
theorem rd_fin {α : Type} {a b : List Int} (h : ovB a b = true) (m : Bool) (how : Int) (k : AOut → Option α) (c : Bool) (hc : 0 < vl a % vl b → up1 how m (vl a % vl b) (vl b) = c) :
    rdText (bif c then rdMore a b m k else rdLess a b m k) a b = k (.ret (.tup [iN (rdN a b m how), bN (smB (vl a / vl b))])) := by
  have O := ov_is h
  have v := vl_dg _ O.q.1
  have s1 := sm_le (n := vl a / vl b)
  have s0 := sm_nn O.q.1
  unfold rdText rdMore rdLess rdN rdQ
  rw [h, isD_dg O.q, v, cond_true, cond_true]
  by_cases hr : 0 < vl a % vl b
  · have hlen : 0 < (dg (vl a % vl b)).length := List.length_pos_iff.2 fun e => by have := (dg_nil O.r.1).1 e; omega
    rw [hc hr, decide_eq_true (show ((dg (vl a % vl b)).length : Int) > 0 by omega), cond_true]
    cases c
    · rw [cond_false, cond_false, rdOut_eq _ _ (by omega), Int.add_zero]
    · rw [cond_true, cond_true, w64 _ (by omega), rdOut_eq _ _ (by omega)]
  · have hz : vl a % vl b = 0 := by have := O.r.1; omega
    have hu : up1 how m (vl a % vl b) (vl b) = false := by unfold up1; rw [decide_eq_false hr]; rfl
    rw [hu, hz, dg_zero, cond_false, Int.add_zero]
    have hd : decide (((List.length ([] : List Int) : Nat) : Int) > 0) = false := rfl
    rw [hd, cond_false, rdOut_eq _ _ (by omega)]
    cases c <;> rfl
theorem round_plain {α : Type} (N n0 : Nat) {a b : List Int} (h : ovB a b = true) (m : Bool) {how : Int} (hw : wayB how = true) (k : AOut → Option α) : evFn real tab ((twT fnC (fun _ => none)).env real tab N n0) N Tryz.f50 α [lN a, lN b, .bool m, iN how] k = k (.ret (.tup [iN (rdN a b m how), bN (smB (vl a / vl b))])) := by
  have O := ov_is h
  rcases way_cases hw with rfl | rfl | rfl | rfl
  · exact (round0_text N n0 α a b m k).trans (rd_fin h m 0 k false fun hr => by unfold up1; rw [decide_eq_true hr]; rfl)
  · exact (round1_text N n0 α a b m k).trans (rd_fin h m 1 k m fun hr => by unfold up1; rw [decide_eq_true hr]; rfl)
  · exact (round2_text N n0 α a b m k).trans (rd_fin h m 2 k (!m) fun hr => by unfold up1; rw [decide_eq_true hr]; rfl)
  · refine (round3_text N n0 α a b m k).trans (Eq.trans ?_ (rd_fin h m 3 k (decide (vl b ≤ vl a % vl b + vl a % vl b)) fun hr => by unfold up1; rw [decide_eq_true hr]; rfl))
    have r0 := O.r
    have b0 := O.bb
    congr 1
    rw [isD_dg ⟨r0.1, by omega⟩, vl_dg _ r0.1, isD_dg ⟨by omega, by omega⟩, vl_dg _ (by omega), O.db]
    simp only [Bool.and_self, cond_true]
    rw [decide_eq_decide.2 cmp3_ge]
theorem roundS_ok : FspOk Tryz.prog 50 roundS := tower_S fnC_ok sp_nil ⟨Tryz.func50, fun _ _ => by kernel_rfl⟩ (by intro α args k; unfold roundS; split <;> simp only [cond_bind, Option.bind_some, Option.bind_none]) fun args out hs h => by
  unfold roundS at h
  split at h
  · rename_i a b m how
    cases hb : ovB a b && wayB how
    · rw [hb] at h; cases h
    · rw [hb] at h
      rw [Bool.and_eq_true] at hb
      exact ⟨1, 0, (round_plain 1 0 hb.1 m hb.2 some).trans h⟩
  · cases h
def fnD : FuncId → Option Fsp := fun g =>
  if g = 49 then some rsizeS else
  if g = 50 then some roundS else
  fnC g
theorem fnD_ok : FsOk fnD :=
  fs_cons rsizeS_ok <|
  fs_cons roundS_ok <|
  fnC_ok
end Go.Proofs.YtfbiblmlcepdlaaGreat

namespace Go.Proofs.YtfbiblmlcepdlaaGreat
open Go.RowKit
def rvalidS : Fsp := fun _ args k => match args with
  | [.int .i64 x] => k (b1 (okB x))
  | _ => none
theorem rvalid_text (N n0 : Nat) (α : Type) (x : Int) (k : AOut → Option α) : evFn real tab ((twT fnD (fun _ => none)).env real tab N n0) N Tryz.f46 α [iN x] k = bif decide (x ≥ -70368744177664) then k (b1 (decide (x ≤ 70368744177664))) else k (b1 false) := by kernel_rfl
theorem rvalidS_ok : FspOk Tryz.prog 46 rvalidS := tower_S fnD_ok sp_nil ⟨Tryz.func46, fun _ _ => by kernel_rfl⟩ (by intro α args k; unfold rvalidS; split <;> rfl) fun args out hs h => by
  unfold rvalidS at h
  split at h
  · rename_i x
    refine ⟨1, 0, (rvalid_text 1 0 AOut x some).trans (Eq.trans ?_ h)⟩
    have : okB x = (decide (x ≥ -70368744177664) && decide (x ≤ 70368744177664)) := rfl
    rw [this]
    cases decide (x ≥ -70368744177664) <;> rfl
  · cases h
def rwayS : Fsp := fun _ args k => match args with
  | [.int .i64 x] => k (b1 (wayB x))
  | _ => none
theorem rway_text (N n0 : Nat) (α : Type) (x : Int) (k : AOut → Option α) : evFn real tab ((twT fnD (fun _ => none)).env real tab N (n0 + 1)) N Tryz.f34 α [iN x] k = bif decide (0 ≤ x) then k (b1 (decide (x ≤ 3))) else k (b1 false) := by kernel_rfl
theorem rwayS_ok : FspOk Tryz.prog 34 rwayS := tower_S fnD_ok sp_nil ⟨Tryz.func34, fun _ _ => by kernel_rfl⟩ (by intro α args k; unfold rwayS; split <;> rfl) fun args out hs h => by
  unfold rwayS at h
  split at h
  · rename_i x
    refine ⟨1, 1, (rway_text 1 0 AOut x some).trans (Eq.trans ?_ h)⟩
    unfold wayB
    cases decide (0 ≤ x) <;> rfl
  · cases h
def squareDS : Fsp := fun _ args k => match args with
  | [.agg [.int .i64 x, .int .i64 y]] => bif i7 x && i7 y then k (l1 (dg (sq2 x y))) else none
  | _ => none
theorem i7_D {x : Int} (h : i7 x = true) : isD (dg (ab x)) = true ∧ vl (dg (ab x)) = ab x ∧ (0 ≤ ab x * ab x ∧ ab x * ab x ≤ 85070591730234615847396907784232501249) := by
  have a := i7_ab h
  exact ⟨isD_dg ⟨a.1, by omega⟩, vl_dg _ a.1, sq_in' a.1 a.2⟩
where
  sq_in' {x B : Int} (h0 : 0 ≤ x) (h1 : x ≤ B) : 0 ≤ x * x ∧ x * x ≤ B * B := ⟨Int.mul_nonneg h0 h0, Int.mul_le_mul h1 h1 h0 (by omega)⟩
theorem squareD_text (N n0 : Nat) (α : Type) (x y : Int) (k : AOut → Option α) : evFn real tab ((twT fnD (fun _ => none)).env real tab N n0) N Tryz.f37 α [sN x y] k =
 bif i7 x then bif decide (0 ≤ ab x) && decide (ab x ≤ 9223372036854775807) then bif i7 y then bif decide (0 ≤ ab y) && decide (ab y ≤ 9223372036854775807) then bif isD (dg (ab x))
 && isD (dg (ab x)) then bif isD (dg (ab y)) && isD (dg (ab y)) then bif isD (dg (vl (dg (ab x)) * vl (dg (ab x)))) && isD (dg (vl (dg (ab y)) * vl (dg (ab y)))) then k (l1 (dg (vl
 (dg (vl (dg (ab x)) * vl (dg (ab x)))) + vl (dg (vl (dg (ab y)) * vl (dg (ab y))))))) else none else none else none else none else none else none else none := by kernel_rfl
theorem squareDS_ok : FspOk Tryz.prog 37 squareDS := tower_S fnD_ok sp_nil ⟨Tryz.func37, fun _ _ => by kernel_rfl⟩ (by intro α args k; unfold squareDS; split <;> simp only [cond_bind, Option.bind_some, Option.bind_none]) fun args out hs h => by
  unfold squareDS at h
  split at h
  · rename_i x y
    cases hb : i7 x && i7 y
    · rw [hb] at h; cases h
    · rw [hb, cond_true] at h
      rw [Bool.and_eq_true] at hb
      obtain ⟨hx, hy⟩ := hb
      refine ⟨1, 0, (squareD_text 1 0 AOut x y some).trans (Eq.trans ?_ h)⟩
      have a := i7_ab hx
      have b := i7_ab hy
      obtain ⟨x1, x2, x3⟩ := i7_D hx
      obtain ⟨y1, y2, y3⟩ := i7_D hy
      rw [hx, hy, decide_eq_true a.1, decide_eq_true a.2, decide_eq_true b.1, decide_eq_true b.2, x1, y1, x2, y2, isD_dg ⟨x3.1, by omega⟩, isD_dg ⟨y3.1, by omega⟩, vl_dg _ x3.1, vl_dg _ y3.1]
      rfl
  · cases h
/-! Shares. -/
section
variable {α : Type} (N : Nat) (X : Int) (a : List Int)
end
/-! Numbers with a sign. -/
end Go.Proofs.YtfbiblmlcepdlaaGreat

namespace Go.Proofs.YtfbiblmlcepdlaaGreat
open Go.RowKit
def fnE : FuncId → Option Fsp := fun g =>
  fnD g
theorem fnE_ok : FsOk fnE :=
  fnD_ok
def fnF : FuncId → Option Fsp := fun g =>
  fnE g
theorem fnF_ok : FsOk fnF :=
  fnE_ok
def fnG : FuncId → Option Fsp := fun g =>
  if g = 46 then some rvalidS else
  fnF g
theorem fnG_ok : FsOk fnG :=
  fs_cons rvalidS_ok <|
  fnF_ok
def fnH : FuncId → Option Fsp := fun g =>
  if g = 34 then some rwayS else
  fnG g
theorem fnH_ok : FsOk fnH :=
  fs_cons rwayS_ok <|
  fnG_ok
def fnI : FuncId → Option Fsp := fun g =>
  if g = 37 then some squareDS else
  fnH g
theorem fnI_ok : FsOk fnI :=
  fs_cons squareDS_ok <|
  fnH_ok
noncomputable def fnJ : FuncId → Option Fsp := fun g =>
  fnI g
theorem fnJ_ok : FsOk fnJ :=
  fnI_ok
/-! Within. -/
/-! Unit. -/
end Go.Proofs.YtfbiblmlcepdlaaGreat

namespace Go.Proofs.YtfbiblmlcepdlaaGreat
open Go.RowKit
def ftV (n : Int) (s : Bool) : Int := bif s && okB n then n else 0
def ftE (n : Int) (s : Bool) : Int := bif s && okB n then 0 else 4
def rfitS : Fsp := fun _ args k => match args with
  | [.int .i64 n, .bool s] => k (.ret (.tup [iN (ftV n s), iN (ftE n s)]))
  | _ => none
theorem rfit_text (N n0 : Nat) (α : Type) (n : Int) (s : Bool) (k : AOut → Option α) : evFn real tab ((twT fnJ (fun _ => none)).env real tab N n0) N Tryz.f35 α [iN n, .bool s] k =
 bif !s then k (.ret (.tup [iN 0, iN 4])) else bif decide (n < -70368744177664) then k (.ret (.tup [iN 0, iN 4])) else bif decide (n > 70368744177664) then k (.ret (.tup [iN 0, iN
 4])) else k (.ret (.tup [iN n, iN 0])) := by kernel_rfl
theorem rfitS_ok : FspOk Tryz.prog 35 rfitS := tower_S fnJ_ok sp_nil ⟨Tryz.func35, fun _ _ => by kernel_rfl⟩ (by intro α args k; unfold rfitS; split <;> rfl) fun args out hs h => by
  unfold rfitS at h
  split at h
  · rename_i n s
    refine ⟨1, 0, (rfit_text 1 0 AOut n s some).trans (Eq.trans ?_ h)⟩
    have e : okB n = (!decide (n < -70368744177664) && !decide (n > 70368744177664)) := by
      rw [Bool.eq_iff_iff, ok_iff]; simp
    unfold ftV ftE
    rw [e]
    cases s <;> cases decide (n < -70368744177664) <;> cases decide (n > 70368744177664) <;> rfl
  · cases h
noncomputable def fnK : FuncId → Option Fsp := fun g =>
  if g = 35 then some rfitS else
  fnJ g
theorem fnK_ok : FsOk fnK :=
  fs_cons rfitS_ok <|
  fnJ_ok
theorem ft_rnd {p d how : Int} (m : Bool) (h0 : 0 ≤ p) (hd : 0 < d) :
    ftV (rdN (dg p) (dg d) m how) (smB (vl (dg p) / vl (dg d))) = fxV m (rnd how m p d) ∧ ftE (rdN (dg p) (dg d) m how) (smB (vl (dg p) / vl (dg d))) = fxE (rnd how m p d) := by
  have n0 := rnd_nn (how := how) (neg := m) h0 hd
  unfold ftV ftE fxV fxE rdN rdQ
  rw [vl_dg _ h0, vl_dg _ (Int.le_of_lt hd)]
  cases hs : smB (p / d)
  · have hf : fxB (rnd how m p d) = false := by
      simp only [smB, decide_eq_false_iff_not] at hs
      unfold rnd fxB
      rw [decide_eq_false_iff_not]
      cases up1 how m (p % d) d <;> simp only [cond_true, cond_false] <;> omega
    rw [hf]; exact ⟨rfl, rfl⟩
  · have hr : p / d + (bif up1 how m (p % d) d then 1 else 0) = rnd how m p d := rfl
    rw [cond_true, hr]
    have hf : okB (sg m (rnd how m p d)) = fxB (rnd how m p d) := by
      rw [Bool.eq_iff_iff, ok_iff]
      unfold fxB sg
      rw [decide_eq_true_iff]
      cases m <;> simp only [cond_true, cond_false] <;> omega
    rw [hf]; exact ⟨rfl, rfl⟩
theorem ov_dg {p d : Int} (h0 : 0 ≤ p) (h1 : p < 1532495540865888858358347027150309183618739122183602176) (hd : 0 < d) (h2 : d < 46768052394588893382517914646921056628989841375232) : ovB (dg p) (dg d) = true := by
  unfold ovB
  rw [isD_dg ⟨h0, h1⟩, isD_dg ⟨Int.le_of_lt hd, by omega⟩, vl_dg _ (Int.le_of_lt hd), decide_eq_true hd, decide_eq_true h2]; rfl
end Go.Proofs.YtfbiblmlcepdlaaGreat

namespace Go.Proofs.YtfbiblmlcepdlaaGreat
open Go.RowKit
def ie (n e : Int) : AOut := .ret (.tup [iN n, iN e])
def qtK {α : Type} (p d : List Int) (m : Bool) (h : Int) (k : AOut → Option α) : Option α :=
  bif ovB p d && wayB h then k (ie (ftV (rdN p d m h) (smB (vl p / vl d))) (ftE (rdN p d m h) (smB (vl p / vl d)))) else none
theorem qtK_eq {α : Type} {p d h : Int} (m : Bool) (h0 : 0 ≤ p) (h1 : p < 1532495540865888858358347027150309183618739122183602176) (hd : 0 < d) (h2 : d < 46768052394588893382517914646921056628989841375232) (hw : wayB h = true) (k : AOut → Option α) :
    qtK (dg p) (dg d) m h k = k (ie (fxV m (rnd h m p d)) (fxE (rnd h m p d))) := by
  unfold qtK
  rw [ov_dg h0 h1 hd h2, hw, (ft_rnd m h0 hd).1, (ft_rnd m h0 hd).2]; rfl
/-! Products of spots. -/
end Go.Proofs.YtfbiblmlcepdlaaGreat

namespace Go.Proofs.YtfbiblmlcepdlaaGreat
open Go.RowKit
abbrev mxN (n : Int) : Int := if n < IntKind.i64.wrap (0 - n) then IntKind.i64.wrap (0 - n) else n
theorem mxN_eq {n : Int} (h : rateB n = true) : mxN n = ab n := by
  rw [rate_iff] at h
  unfold mxN ab
  rw [w64 _ (by omega)]
  split <;> split <;> omega
def rscaleS : Fsp := fun _ args k => match args with
  | [.int .i64 a, .int .i64 n, .int .i64 d, .int .i64 h] => k (ie (scV a n d h) (scE a n d h))
  | _ => none
theorem rscale_text (N n0 : Nat) (α : Type) (x n d h : Int) (k : AOut → Option α) : evFn real tab ((twT fnK (fun _ => none)).env real tab N (n0 + 2)) N Tryz.f23 α [iN x, iN n, iN d, iN h] k =
 bif !okB x then k (ie 0 2) else bif !wayB h then k (ie 0 2) else bif decide (-2147483648 ≤ n) then bif !decide (n ≤ 2147483648) then k (ie 0 2) else bif decide (-2147483648 ≤ d)
 then bif !decide (d ≤ 2147483648) then k (ie 0 2) else bif d == 0 then k (ie 0 10) else bif i7 x then bif decide (0 ≤ ab x) && decide (ab x ≤ 9223372036854775807) then bif decide (0
 ≤ mxN n) && decide (mxN n ≤ 9223372036854775807) then bif isD (dg (ab x)) && isD (dg (mxN n)) then bif decide (0 ≤ mxN d) && decide (mxN d ≤ 9223372036854775807) then qtK (dg (vl
 (dg (ab x)) * vl (dg (mxN n)))) (dg (mxN d)) (!(!decide (x < 0) == decide (n < 0)) == decide (d < 0)) h k else none else none else none else none else none else k (ie 0 2) else k
 (ie 0 2) := by kernel_rfl
theorem rscaleS_ok : FspOk Tryz.prog 23 rscaleS := tower_S fnK_ok sp_nil ⟨Tryz.func23, fun _ _ => by kernel_rfl⟩ (by intro α args k; unfold rscaleS; split <;> rfl) fun args out hs h => by
  unfold rscaleS at h
  split at h
  · rename_i x n d w
    refine ⟨1, 2, (rscale_text 1 0 AOut x n d w some).trans (Eq.trans ?_ h)⟩
    have rn : rateB n = (decide (-2147483648 ≤ n) && decide (n ≤ 2147483648)) := rfl
    have rd : rateB d = (decide (-2147483648 ≤ d) && decide (d ≤ 2147483648)) := rfl
    unfold scV scE scB scN
    cases hx : okB x
    · rfl
    · cases hw : wayB w
      · rfl
      · cases hn : rateB n
        · rw [rn] at hn
          cases p : decide (-2147483648 ≤ n)
          · rfl
          · rw [p, Bool.true_and] at hn; rw [hn]; rfl
        · have hn' := hn
          rw [rn, Bool.and_eq_true] at hn'
          rw [hn'.1, hn'.2]
          cases hd : rateB d
          · rw [rd] at hd
            cases p : decide (-2147483648 ≤ d)
            · rfl
            · rw [p, Bool.true_and] at hd; rw [hd]; rfl
          · have hd' := hd
            rw [rd, Bool.and_eq_true] at hd'
            rw [hd'.1, hd'.2]
            cases hz : d == 0
            · have z := beq_eq_false_iff_ne.1 hz
              have a := i7_ab (i7_ok hx)
              obtain ⟨x1, x2, _⟩ := i7_D (i7_ok hx)
              have n1 := rate_iff.1 hn
              have d1 := rate_iff.1 hd
              have n2 : 0 ≤ ab n ∧ ab n ≤ 2147483648 := by unfold ab; split <;> omega
              have d2 : 0 < ab d ∧ ab d ≤ 2147483648 := by unfold ab; split <;> omega
              have m : 0 ≤ ab x * ab n ∧ ab x * ab n ≤ 70368744177664 * 2147483648 := ⟨Int.mul_nonneg a.1 n2.1, Int.mul_le_mul (ok_ab hx) n2.2 n2.1 (by omega)⟩
              have e : (!(!decide (x < 0) == decide (n < 0)) == decide (d < 0)) = scG x n d := by unfold scG xorB ngB; cases decide (x < 0) <;> cases decide (n < 0) <;> cases decide (d < 0) <;> rfl
              rw [mxN_eq hn, mxN_eq hd, i7_ok hx, decide_eq_true a.1, decide_eq_true a.2, decide_eq_true n2.1, decide_eq_true (show ab n ≤ 9223372036854775807 by omega), decide_eq_true (Int.le_of_lt d2.1), decide_eq_true (show ab d ≤ 9223372036854775807 by omega), x1, isD_dg (n := ab n) ⟨n2.1, by omega⟩, x2, vl_dg _ n2.1, qtK_eq _ m.1 (by omega) d2.1 (by omega) hw, e]
              rfl
            · rfl
  · cases h
noncomputable def fnL : FuncId → Option Fsp := fun g =>
  if g = 23 then some rscaleS else
  fnK g
theorem fnL_ok : FsOk fnL :=
  fs_cons rscaleS_ok <|
  fnK_ok
end Go.Proofs.YtfbiblmlcepdlaaGreat

namespace Go.Proofs.YtfbiblmlcepdlaaGreat
open Go.RowKit
end Go.Proofs.YtfbiblmlcepdlaaGreat

namespace Go.Proofs.YtfbiblmlcepdlaaGreat
open Go.RowKit
namespace MulN
theorem maskN (a : Nat) (ha : a < 18446744073709551616) : bits .and .u64 (a : Int) 4294967295 = ((a % 4294967296 : Nat) : Int) := by
  have h := bits_and_u64_nat a 4294967295 ha (by omega)
  have e : a &&& 4294967295 = a % 4294967296 := Nat.and_two_pow_sub_one_eq_mod a 32
  rw [e] at h
  exact h
theorem divN (a : Nat) : (a : Int) / 4294967296 = ((a / 4294967296 : Nat) : Int) := by omega
theorem mulN (a b : Nat) : (a : Int) * (b : Int) = ((a * b : Nat) : Int) := (Int.natCast_mul a b).symm
theorem addN (a b : Nat) : (a : Int) + (b : Int) = ((a + b : Nat) : Int) := (Int.natCast_add a b).symm
theorem wrapN (a : Nat) (ha : a < 18446744073709551616) : IntKind.u64.wrap (a : Int) = (a : Int) := by rw [IntKind.wrap_u64]; omega
theorem wrapM (a : Nat) : IntKind.u64.wrap (a : Int) = ((a % 18446744073709551616 : Nat) : Int) := by rw [IntKind.wrap_u64]; omega
end MulN
set_option maxHeartbeats 1000000 in
theorem mul64_nat (x y : Nat) (hx : x < 18446744073709551616) (hy : y < 18446744073709551616) (w : World) :
    Calls Tryz.prog 73 #[.int .u64 x, .int .u64 y] w fun e w' => e = .returned (.tuple #[.int .u64 ((x * y / 18446744073709551616 : Nat) : Int), .int .u64 ((x * y % 18446744073709551616 : Nat) : Int)]) ∧ w = w' := by
  obtain ⟨bd, bt, bw, hhi⟩ := Lib.mul64_hi x y hx hy
  have ba := Lib.half_mul_le (a := x / 4294967296) (b := y / 4294967296) (by omega) (by omega)
  have bb := Lib.half_mul_le (a := x / 4294967296) (b := y % 4294967296) (by omega) (by omega)
  have bc := Lib.half_mul_le (a := x % 4294967296) (b := y / 4294967296) (by omega) (by omega)
  have ba' : x / 4294967296 * (y / 4294967296) < 18446744073709551616 := by omega
  have bb' : x / 4294967296 * (y % 4294967296) < 18446744073709551616 := by omega
  have bc' : x % 4294967296 * (y / 4294967296) < 18446744073709551616 := by omega
  have bh1 : x / 4294967296 * (y / 4294967296) + (x / 4294967296 * (y % 4294967296) + x % 4294967296 * (y % 4294967296) / 4294967296) / 4294967296 < 18446744073709551616 := by omega
  have bh : x / 4294967296 * (y / 4294967296) + (x / 4294967296 * (y % 4294967296) + x % 4294967296 * (y % 4294967296) / 4294967296) / 4294967296 + ((x / 4294967296 * (y % 4294967296) + x % 4294967296 * (y % 4294967296) / 4294967296) % 4294967296 + x % 4294967296 * (y / 4294967296)) / 4294967296 < 18446744073709551616 := by omega
  go_enter Tryz.func73, Tryz.ntmps73
  go_wp2
  simp only [MulN.maskN x hx, MulN.maskN y hy, MulN.divN, MulN.mulN, MulN.addN, MulN.wrapN _ bd, MulN.wrapN _ bb', MulN.wrapN _ bt, MulN.maskN _ bt, MulN.wrapN _ bc', MulN.wrapN _ bw, MulN.wrapN _ ba', MulN.wrapN _ bh1, MulN.wrapN _ bh, MulN.wrapM (x * y)]
  rw [hhi]
  go_ret2
  exact ⟨rfl, rfl⟩
def Word (x : Int) : Prop := 0 ≤ x ∧ x < 18446744073709551616
theorem mul64 (x y : Int) (hx : Word x) (hy : Word y) (w : World) :
    Calls Tryz.prog 73 #[.int .u64 x, .int .u64 y] w fun e w' => e = .returned (.tuple #[.int .u64 (x * y / 18446744073709551616), .int .u64 (x * y % 18446744073709551616)]) ∧ w = w' := by
  obtain ⟨h1, h2⟩ := hx; obtain ⟨h3, h4⟩ := hy
  obtain ⟨x, rfl⟩ := Int.eq_ofNat_of_zero_le h1
  obtain ⟨y, rfl⟩ := Int.eq_ofNat_of_zero_le h3
  exact mul64_nat x y (by omega) (by omega) w
theorem add64 (x y c : Int) (hx : 0 ≤ x) (hy : 0 ≤ y) (hc0 : 0 ≤ c) (hc : c ≤ 1) (w : World) : (callFunc 97 #[.int .u64 x, .int .u64 y, .int .u64 c]).run Tryz.prog w =
    .ok (.value (.tuple #[.int .u64 ((x + y + c) % 18446744073709551616), .int .u64 ((x + y + c) / 18446744073709551616)])) w := by
  rw [run_callFunc_extern Tryz.func97 (by kernel_rfl) (by kernel_rfl) (by kernel_rfl) (e := add64Entry) (by kernel_rfl), run_add64 x y c hx hy hc0 hc]
  rfl
theorem len8_idx (i : Int) (h0 : 0 ≤ i) (h1 : i ≤ 255) (h : i.toNat < Lib.len8tab.size) : ((Lib.len8tab[i.toNat]'h).toNat : Int) = Lib.bitLen i.toNat := by
  have e := Lib.len8_eq ⟨i.toNat, by omega⟩
  simp only [Int.toNat_of_nonneg h0, Lib.len8, ByteArray.getElem?_lt' _ _ h, Option.getD_some] at e
  exact e
theorem len_fin (x i k : Int) (h0 : 0 ≤ i) (h1 : i ≤ 255) (h : i.toNat < Lib.len8tab.size) (hk0 : 0 ≤ k) (hk1 : k ≤ 56) (hk : (Lib.bitLen x.toNat : Int) = k + Lib.bitLen i.toNat) :
    wrap64 (k + wrap64 ((Lib.len8tab[i.toNat]'h).toNat : Int)) = Lib.bitLen x.toNat := by
  have l := Lib.bitLen_le8' i h0 h1
  rw [len8_idx i h0 h1 h, hk]
  unfold wrap64
  omega
theorem len_fin0 (x : Int) (h0 : 0 ≤ x) (h1 : x ≤ 255) (h : x.toNat < Lib.len8tab.size) :
    wrap64 (wrap64 ((Lib.len8tab[x.toNat]'h).toNat : Int)) = Lib.bitLen x.toNat := by
  have l := Lib.bitLen_le8' x h0 h1
  rw [len8_idx x h0 h1 h]
  unfold wrap64
  omega
set_option maxHeartbeats 4000000 in
set_option maxRecDepth 100000 in
theorem len64 (x : Int) (w : World) (h0 : 0 ≤ x) (h1 : x ≤ 18446744073709551615) :
    Calls Tryz.prog 96 #[.int .u64 x] w fun e w' => e = .returned (.int .i64 (Lib.bitLen x.toNat)) ∧ w = w' := by
  have hsz := Lib.len8tab_size
  go_enter Tryz.func96, Tryz.ntmps96
  go_wp2
  all_goals (go_ret; refine ⟨congrArg Ending.returned (congrArg (Value.int IntKind.i64) ?_), rfl⟩)
  all_goals first
    | exact len_fin x (x / 4294967296 / 65536 / 256) 56 (by omega) (by omega) _ (by omega) (by omega) (by have s := Lib.bitLen_shift56 x.toNat (by omega) (by omega); have e : (x / 4294967296 / 65536 / 256).toNat = x.toNat / 72057594037927936 := (by omega); rw [e]; omega)
    | exact len_fin x (x / 4294967296 / 65536) 48 (by omega) (by omega) _ (by omega) (by omega) (by have s := Lib.bitLen_shift48 x.toNat (by omega) (by omega); have e : (x / 4294967296 / 65536).toNat = x.toNat / 281474976710656 := (by omega); rw [e]; omega)
    | exact len_fin x (x / 4294967296 / 256) 40 (by omega) (by omega) _ (by omega) (by omega) (by have s := Lib.bitLen_shift40 x.toNat (by omega) (by omega); have e : (x / 4294967296 / 256).toNat = x.toNat / 1099511627776 := (by omega); rw [e]; omega)
    | exact len_fin x (x / 4294967296) 32 (by omega) (by omega) _ (by omega) (by omega) (by have s := Lib.bitLen_shift32 x.toNat (by omega) (by omega); have e : (x / 4294967296).toNat = x.toNat / 4294967296 := (by omega); rw [e]; omega)
    | exact len_fin x (x / 65536 / 256) 24 (by omega) (by omega) _ (by omega) (by omega) (by have s := Lib.bitLen_shift24 x.toNat (by omega) (by omega); have e : (x / 65536 / 256).toNat = x.toNat / 16777216 := (by omega); rw [e]; omega)
    | exact len_fin x (x / 65536) 16 (by omega) (by omega) _ (by omega) (by omega) (by have s := Lib.bitLen_shift16 x.toNat (by omega) (by omega); have e : (x / 65536).toNat = x.toNat / 65536 := (by omega); rw [e]; omega)
    | exact len_fin x (x / 256) 8 (by omega) (by omega) _ (by omega) (by omega) (by have s := Lib.bitLen_shift8 x.toNat (by omega) (by omega); have e : (x / 256).toNat = x.toNat / 256 := (by omega); rw [e]; omega)
    | exact len_fin0 x (by omega) (by omega) _
theorem bitLen_spec : ∀ (f x : Nat), 0 < x → x < 2 ^ f → 0 < Lib.bitLenAux f x ∧ Lib.bitLenAux f x ≤ f ∧ 2 ^ (Lib.bitLenAux f x - 1) ≤ x ∧ x < 2 ^ Lib.bitLenAux f x
  | 0, x, h, hx => by simp at hx; omega
  | f + 1, x, h, hx => by
    simp only [Lib.bitLenAux]
    rw [if_neg (by omega)]
    by_cases h2 : x / 2 = 0
    · have hx1 : x = 1 := by omega
      subst hx1
      cases f with
      | zero => simp [Lib.bitLenAux]
      | succ f => simp [Lib.bitLenAux]
    · obtain ⟨a, b, c, d⟩ := bitLen_spec f (x / 2) (by omega) (by rw [Nat.pow_succ] at hx; omega)
      generalize Lib.bitLenAux f (x / 2) = k at *
      obtain ⟨j, rfl⟩ : ∃ j, k = j + 1 := ⟨k - 1, by omega⟩
      have e1 : 1 + (j + 1) = (j + 1) + 1 := by omega
      rw [e1, Nat.add_sub_cancel, Nat.pow_succ 2 (j + 1), Nat.pow_succ 2 j] at *
      exact ⟨by omega, by omega, by omega, by omega⟩
theorem lead_fin (n k : Nat) (b : k ≤ 64) (a : 0 < k) (c : 2 ^ (k - 1) ≤ n) (d : n < 2 ^ k) : 64 - k ≤ 63 ∧ 2 ^ 63 ≤ n * 2 ^ (64 - k) ∧ n * 2 ^ (64 - k) < 2 ^ 64 := by
  have p1 : 2 ^ (k - 1) * 2 ^ (64 - k) = 2 ^ 63 := by
    rw [← Nat.pow_add, show k - 1 + (64 - k) = 63 by omega]
  have p2 : 2 ^ k * 2 ^ (64 - k) = 2 ^ 64 := by
    rw [← Nat.pow_add, show k + (64 - k) = 64 by omega]
  have q1 := Nat.mul_le_mul_right (2 ^ (64 - k)) c
  have q2 := Nat.mul_lt_mul_of_pos_right d (Nat.two_pow_pos (64 - k))
  rw [p1] at q1
  rw [p2] at q2
  exact ⟨by omega, q1, q2⟩
theorem lead64 (n : Nat) (w : World) (h0 : 0 < n) (h1 : n < 18446744073709551616) :
    Calls Tryz.prog 110 #[.int .u64 n] w fun e w' => (∃ s : Nat, e = .returned (.int .i64 s) ∧ s ≤ 63 ∧ 2 ^ 63 ≤ n * 2 ^ s ∧ n * 2 ^ s < 2 ^ 64) ∧ w = w' := by
  obtain ⟨a, b, c, d⟩ := bitLen_spec 64 n h0 (by have : (2:Nat) ^ 64 = 18446744073709551616 := by decide
                                                 omega)
  have hf := lead_fin n _ b a c d
  have hb : Lib.bitLen n ≤ 64 := b
  have hs : (64 - Lib.bitLen n : Int) = ((64 - Lib.bitLen n : Nat) : Int) := by omega
  have hf' : 64 - Lib.bitLen n ≤ 63 ∧ 2 ^ 63 ≤ n * 2 ^ (64 - Lib.bitLen n) ∧ n * 2 ^ (64 - Lib.bitLen n) < 2 ^ 64 := hf
  clear a b c d hf
  go_enter Tryz.func110, Tryz.ntmps110
  go_wp2_with (go_at_call 96; refine (len64 _ _ (by omega) (by omega)).mono ?_; rintro e w' ⟨rfl, rfl⟩; rw [Int.toNat_natCast])
  go_ret
  exact ⟨⟨_, rfl, hf'⟩, rfl⟩
end Go.Proofs.YtfbiblmlcepdlaaGreat

namespace Go.Proofs.YtfbiblmlcepdlaaGreat.NumA
theorem digit_low (u v q r y1 y0 n1 : Nat) (hv : v = y1 * 4294967296 + y0) (hi : q * y1 + r = u) (hy0 : y0 < 4294967296)
    (ht : (q < 4294967296 ∧ q * y0 ≤ 4294967296 * r + n1) ∨ (4294967296 ≤ r ∧ q ≤ 4294967296)) : q * v ≤ u * 4294967296 + n1 := by
  have e : q * v = (q * y1) * 4294967296 + q * y0 := by rw [hv, Nat.mul_add, Nat.mul_assoc]
  have e2 : u * 4294967296 = (q * y1) * 4294967296 + r * 4294967296 := by rw [← hi, Nat.add_mul]
  rw [e, e2]
  have h : q * y0 ≤ r * 4294967296 + n1 := by
    rcases ht with ⟨_, h⟩ | ⟨h1, h2⟩
    · rw [Nat.mul_comm r]; exact h
    · have := Nat.mul_le_mul h2 (Nat.le_of_lt hy0)
      have := Nat.mul_le_mul_right 4294967296 h1
      omega
  omega
theorem digit_high (u v q n1 : Nat) (h : u * 4294967296 + n1 < q * v) : (u * 4294967296 + n1) / v < q := by
  have hv : 0 < v := by
    rcases Nat.eq_zero_or_pos v with h0 | h0
    · subst h0; omega
    · exact h0
  exact (Nat.div_lt_iff_lt_mul hv).2 h
theorem digit_more (u v q r y1 y0 n1 : Nat) (hv : v = y1 * 4294967296 + y0) (hi : q * y1 + r = u) (hn : n1 < 4294967296) (hu : u < v)
    (ht : 4294967296 ≤ q ∨ 4294967296 * r + n1 < q * y0) : (u * 4294967296 + n1) / v < q := by
  apply digit_high
  rcases ht with h | h
  · have h1 := Nat.mul_le_mul_right v h
    have h2 : (u + 1) * 4294967296 ≤ v * 4294967296 := Nat.mul_le_mul_right _ hu
    rw [Nat.mul_comm] at h1
    omega
  · have e : q * v = (q * y1) * 4294967296 + q * y0 := by rw [hv, Nat.mul_add, Nat.mul_assoc]
    have e2 : u * 4294967296 = (q * y1) * 4294967296 + r * 4294967296 := by rw [← hi, Nat.add_mul]
    omega
theorem digit_is (u v q n1 : Nat) (hl : q * v ≤ u * 4294967296 + n1) (hh : (u * 4294967296 + n1) / v ≤ q) (hv : 0 < v) : q = (u * 4294967296 + n1) / v :=
  Nat.le_antisymm ((Nat.le_div_iff_mul_le hv).2 hl) hh
theorem first_high (u v y1 y0 n1 : Nat) (hv : v = y1 * 4294967296 + y0) (hy0 : y0 < 4294967296) (hy1 : 2147483648 ≤ y1) (hn : n1 < 4294967296) (hu : u < v) :
    (u * 4294967296 + n1) / v ≤ u / y1 ∧ u / y1 ≤ 4294967297 := by
  have hy : 0 < y1 := by omega
  constructor
  · have h := Nat.lt_mul_div_succ u hy
    apply Nat.le_of_lt_succ
    apply digit_high
    rw [hv]
    have e : (u / y1 + 1) * (y1 * 4294967296 + y0) = y1 * (u / y1 + 1) * 4294967296 + (u / y1 + 1) * y0 := by
      rw [Nat.mul_add, ← Nat.mul_assoc, Nat.mul_comm (u / y1 + 1) y1]
    show _ < (u / y1 + 1) * _
    rw [e]
    have : (u + 1) * 4294967296 ≤ y1 * (u / y1 + 1) * 4294967296 := Nat.mul_le_mul_right _ h
    omega
  · apply Nat.le_of_lt_succ
    rw [Nat.div_lt_iff_lt_mul hy]
    omega
theorem rest_is (u v n1 : Nat) : u * 4294967296 + n1 - (u * 4294967296 + n1) / v * v = (u * 4294967296 + n1) % v := by
  have := Nat.div_add_mod (u * 4294967296 + n1) v
  rw [Nat.mul_comm] at this
  omega
theorem digit_lt (u v n1 : Nat) (hn : n1 < 4294967296) (hu : u < v) : (u * 4294967296 + n1) / v < 4294967296 := by
  rw [Nat.div_lt_iff_lt_mul (by omega)]
  have := Nat.mul_le_mul_right 4294967296 hu
  rw [Nat.mul_comm 4294967296]
  omega
theorem two_digits_of (B u v n1 n0 : Nat) (hv : 0 < v) :
    (u * (B * B) + (n1 * B + n0)) / v = (u * B + n1) / v * B + ((u * B + n1) % v * B + n0) / v ∧
    (u * (B * B) + (n1 * B + n0)) % v = ((u * B + n1) % v * B + n0) % v := by
  have h := Nat.div_add_mod (u * B + n1) v
  generalize (u * B + n1) / v = q at *
  generalize (u * B + n1) % v = r at *
  have e : u * (B * B) + (n1 * B + n0) = v * (q * B) + (r * B + n0) := by
    have : (v * q + r) * B = (u * B + n1) * B := by rw [h]
    rw [Nat.add_mul, Nat.add_mul, Nat.mul_assoc, Nat.mul_assoc] at this
    omega
  rw [e]
  exact ⟨by rw [Nat.mul_add_div hv], by rw [Nat.mul_add_mod]⟩
theorem two_digits (u v n1 n0 : Nat) (hv : 0 < v) :
    (u * 18446744073709551616 + (n1 * 4294967296 + n0)) / v = (u * 4294967296 + n1) / v * 4294967296 + ((u * 4294967296 + n1) % v * 4294967296 + n0) / v ∧
    (u * 18446744073709551616 + (n1 * 4294967296 + n0)) % v = ((u * 4294967296 + n1) % v * 4294967296 + n0) % v :=
  two_digits_of 4294967296 u v n1 n0 hv
theorem shifted (n y s : Nat) : n * 2 ^ s / (y * 2 ^ s) = n / y ∧ n * 2 ^ s % (y * 2 ^ s) / 2 ^ s = n % y := by
  have h : 0 < 2 ^ s := Nat.two_pow_pos s
  exact ⟨Nat.mul_div_mul_right _ _ h, by rw [Nat.mul_mod_mul_right, Nat.mul_div_cancel _ h]⟩
def Dig (u v y1 n1 Q R : Nat) : Prop := Q * y1 + R = u ∧ (u * 4294967296 + n1) / v ≤ Q ∧ Q ≤ 4294967297 ∧ R < 4294967296
def DigAt (u v n1 Q : Nat) : Prop := Q = (u * 4294967296 + n1) / v
structure Norm (v y1 y0 : Nat) : Prop where
  eq : v = y1 * 4294967296 + y0
  low : y0 < 4294967296
  high : 2147483648 ≤ y1
  top : y1 < 4294967296
theorem Dig.first {u v y1 y0 n1 : Nat} (h : Norm v y1 y0) (hn : n1 < 4294967296) (hu : u < v) : Dig u v y1 n1 (u / y1) (u - u / y1 * y1) := by
  obtain ⟨a, b⟩ := first_high u v y1 y0 n1 h.eq h.low h.high hn hu
  have e := Nat.div_add_mod' u y1
  have m := Nat.mod_lt u (show 0 < y1 by have := h.high; omega)
  have t := h.top
  exact ⟨by omega, a, b, by omega⟩
theorem Dig.done {u v y1 y0 n1 Q R : Nat} (h : Norm v y1 y0) (d : Dig u v y1 n1 Q R) (h1 : Q < 4294967296) (h2 : Q * y0 ≤ 4294967296 * R + n1) : DigAt u v n1 Q := by
  have hh := h.high
  exact digit_is u v Q n1 (digit_low u v Q R y1 y0 n1 h.eq d.1 h.low (.inl ⟨h1, h2⟩)) d.2.1 (by rw [h.eq]; omega)
theorem Dig.less {u v y1 y0 n1 Q R : Nat} (h : Norm v y1 y0) (d : Dig u v y1 n1 Q R) (hn : n1 < 4294967296) (hu : u < v) (ht : 4294967296 ≤ Q ∨ 4294967296 * R + n1 < Q * y0) :
    0 < Q ∧ (R + y1 < 4294967296 → Dig u v y1 n1 (Q - 1) (R + y1)) ∧ (4294967296 ≤ R + y1 → DigAt u v n1 (Q - 1)) := by
  have hm := digit_more u v Q R y1 y0 n1 h.eq d.1 hn hu ht
  obtain ⟨d1, d2, d3, d4⟩ := d
  have hh := h.high
  have hQ : 0 < Q := Nat.lt_of_le_of_lt (Nat.zero_le _) hm
  generalize hg : (u * 4294967296 + n1) / v = g at *
  obtain ⟨q, rfl⟩ : ∃ q, Q = q + 1 := ⟨Q - 1, by omega⟩
  rw [Nat.add_sub_cancel]
  rw [Nat.add_mul, Nat.one_mul] at d1
  refine ⟨by omega, fun hr => ⟨by omega, by rw [hg]; omega, by omega, hr⟩, fun hr => ?_⟩
  exact digit_is u v q n1 (digit_low u v q (R + y1) y1 y0 n1 h.eq (by omega) h.low (.inr ⟨hr, by omega⟩)) (by rw [hg]; omega) (by rw [h.eq]; omega)
theorem DigAt.rest {u v n1 Q : Nat} (d : DigAt u v n1 Q) (hu : u < v) (hn : n1 < 4294967296) (hv : v < 18446744073709551616) :
    Q < 4294967296 ∧ ((((u : Int) * 4294967296 % 18446744073709551616 + n1) % 18446744073709551616 - (Q : Int) * v % 18446744073709551616) % 18446744073709551616 = (((u * 4294967296 + n1) % v : Nat) : Int)) ∧ (u * 4294967296 + n1) % v < v := by
  have hl := digit_lt u v n1 hn hu
  have hr := rest_is u v n1
  have hm := Nat.mod_lt (u * 4294967296 + n1) (show 0 < v by omega)
  have hd := Nat.div_mul_le_self (u * 4294967296 + n1) v
  unfold DigAt at d
  rw [← d] at hr hl hd
  refine ⟨hl, ?_, hm⟩
  generalize (u * 4294967296 + n1) % v = r at *
  have e : (Q : Int) * v = ((Q * v : Nat) : Int) := (Int.natCast_mul Q v).symm
  rw [e]
  generalize Q * v = k at *
  omega
end Go.Proofs.YtfbiblmlcepdlaaGreat.NumA

namespace Go.Proofs.YtfbiblmlcepdlaaGreat
open Go.RowKit NumA
theorem div64_small (lo y : Nat) (w : World) (h0 : 0 < y) (hy : y < 18446744073709551616) (hlo : lo < 18446744073709551616) :
    Calls Tryz.prog 100 #[.int .u64 0, .int .u64 lo, .int .u64 y] w fun e w' => e = .returned (.tuple #[.int .u64 ((lo / y : Nat) : Int), .int .u64 ((lo % y : Nat) : Int)]) ∧ ∃ n, w' = w.drewN n := by
  have h1 : ((y : Int) == 0) = false := by simp; omega
  have h2 : ¬ (y : Int) ≤ 0 := by omega
  have h3 : ¬ (y : Int) = 0 := by omega
  have hl := Nat.div_le_self lo y
  have e : ∀ k : Int, k = ((lo / y : Nat) : Int) → IntKind.u64.wrap k = ((lo / y : Nat) : Int) := by
    intro k hk; rw [hk, IntKind.wrap_u64]; generalize lo / y = g at *; omega
  have e' := e (lo / y) (Int.natCast_ediv lo y).symm
  clear e
  go_enter Tryz.func100, Tryz.ntmps100
  go_wp2
  go_quiet (fail)
  go_wp2
  go_ret2
  exact ⟨rfl, _, rfl⟩
theorem shl_u (y s : Nat) (h2 : y * 2 ^ s < 2 ^ 64) : IntKind.u64.wrap ((y : Int) * 2 ^ s) = ((y * 2 ^ s : Nat) : Int) := by
  have e : (y : Int) * 2 ^ s = ((y * 2 ^ s : Nat) : Int) := by rw [Int.natCast_mul, Int.natCast_pow]; rfl
  have h2' : y * 2 ^ s < 18446744073709551616 := h2
  rw [e, IntKind.wrap_u64]
  generalize y * 2 ^ s = k at *
  omega
theorem shl_mod (y s : Nat) : IntKind.u64.wrap ((y : Int) * 2 ^ s) = ((y * 2 ^ s % 18446744073709551616 : Nat) : Int) := by
  have e : (y : Int) * 2 ^ s = ((y * 2 ^ s : Nat) : Int) := by rw [Int.natCast_mul, Int.natCast_pow]; rfl
  rw [e, IntKind.wrap_u64]
  generalize y * 2 ^ s = k at *
  omega
structure Setup (hi lo y s v y1 y0 u n1 n0 : Nat) : Prop where
  norm : Norm v y1 y0
  ltv : v < 18446744073709551616
  ltu : u < v
  lt1 : n1 < 4294967296
  lt0 : n0 < 4294967296
  quo : (u * 18446744073709551616 + (n1 * 4294967296 + n0)) / v = (hi * 18446744073709551616 + lo) / y
  rem : (u * 18446744073709551616 + (n1 * 4294967296 + n0)) % v / 2 ^ s = (hi * 18446744073709551616 + lo) % y
theorem set_up (hi lo y s : Nat) (hh : hi < y) (hlo : lo < 18446744073709551616) (hs : s ≤ 63) (h1 : 2 ^ 63 ≤ y * 2 ^ s) (h2 : y * 2 ^ s < 2 ^ 64) :
    ∃ v y1 y0 u n1 n0 n10 : Nat, IntKind.u64.wrap ((y : Int) * 2 ^ s) = (v : Int) ∧ bits .and .u64 (v : Int) 4294967295 = (y0 : Int) ∧ (v : Int) / 4294967296 = (y1 : Int) ∧
      bits .or .u64 (IntKind.u64.wrap ((hi : Int) * 2 ^ s)) ((lo : Int) / 2 ^ (64 - s)) = (u : Int) ∧ IntKind.u64.wrap ((lo : Int) * 2 ^ s) = (n10 : Int) ∧
      bits .and .u64 (n10 : Int) 4294967295 = (n0 : Int) ∧ (n10 : Int) / 4294967296 = (n1 : Int) ∧ Setup hi lo y s v y1 y0 u n1 n0 := by
  have hP : 0 < 2 ^ s := Nat.two_pow_pos s
  have hPQ : 2 ^ s * 2 ^ (64 - s) = 18446744073709551616 := by rw [← Nat.pow_add, show s + (64 - s) = 64 by omega]
  have hQ : 0 < 2 ^ (64 - s) := Nat.two_pow_pos _
  have hhs : (hi + 1) * 2 ^ s ≤ y * 2 ^ s := Nat.mul_le_mul_right _ hh
  rw [Nat.add_mul, Nat.one_mul] at hhs
  have h2' : y * 2 ^ s < 18446744073709551616 := h2
  have h1' : 9223372036854775808 ≤ y * 2 ^ s := h1
  have hl1 : lo / 2 ^ (64 - s) < 2 ^ s := by
    rw [Nat.div_lt_iff_lt_mul hQ, hPQ]; exact hlo
  have hor : hi * 2 ^ s ||| lo / 2 ^ (64 - s) = hi * 2 ^ s + lo / 2 ^ (64 - s) := nat_join s _ _ (by simp) hl1
  have ehi := shl_u hi s (by show _ < 18446744073709551616; omega)
  have elo : ((lo : Int) / 2 ^ (64 - s)) = ((lo / 2 ^ (64 - s) : Nat) : Int) := by
    rw [Int.natCast_ediv, Int.natCast_pow]; rfl
  have hdm := Nat.div_add_mod lo (2 ^ (64 - s))
  have hsplit : lo * 2 ^ s = lo / 2 ^ (64 - s) * 18446744073709551616 + lo * 2 ^ s % 18446744073709551616 := by
    have : lo * 2 ^ s / 18446744073709551616 = lo / 2 ^ (64 - s) := by
      rw [← hPQ, Nat.mul_comm lo, Nat.mul_div_mul_left _ _ hP]
    have := Nat.div_add_mod (lo * 2 ^ s) 18446744073709551616
    omega
  have hsh := shifted (hi * 18446744073709551616 + lo) y s
  have hall : (hi * 18446744073709551616 + lo) * 2 ^ s = (hi * 2 ^ s + lo / 2 ^ (64 - s)) * 18446744073709551616 + (lo * 2 ^ s % 18446744073709551616 / 4294967296 * 4294967296 + lo * 2 ^ s % 18446744073709551616 % 4294967296) := by
    rw [Nat.add_mul, Nat.mul_right_comm]
    omega
  rw [hall] at hsh
  refine ⟨y * 2 ^ s, y * 2 ^ s / 4294967296, y * 2 ^ s % 4294967296, hi * 2 ^ s + lo / 2 ^ (64 - s), lo * 2 ^ s % 18446744073709551616 / 4294967296, lo * 2 ^ s % 18446744073709551616 % 4294967296, lo * 2 ^ s % 18446744073709551616,
    shl_u y s h2, MulN.maskN _ h2', by omega, ?_, shl_mod lo s, MulN.maskN _ (by omega), by omega, ⟨⟨by omega, by omega, by omega, by omega⟩, h2', by omega, by omega, by omega, hsh.1, hsh.2⟩⟩
  rw [ehi, elo, bits_or_u64_nat _ _ (by omega) (by omega), hor]
theorem u64_mul (a b : Nat) (h : a * b < 18446744073709551616) : IntKind.u64.wrap ((a : Int) * b) = ((a * b : Nat) : Int) := by
  rw [IntKind.wrap_u64, ← Int.natCast_mul]; omega
theorem dig_setup {u v y1 y0 n1 : Nat} (h : Norm v y1 y0) (hn : n1 < 4294967296) (hu : u < v) (hv : v < 18446744073709551616) :
    ∃ q p r : Nat, (u : Int) / y1 = (q : Int) ∧ IntKind.u64.wrap ((q : Int) * y1) = (p : Int) ∧ (u : Int) - p = (r : Int) ∧ p ≤ u ∧ q ≤ 4294967297 ∧ r < 4294967296 ∧ 0 < y1 ∧ y1 < 4294967296 ∧ u < 18446744073709551616 ∧ Dig u v y1 n1 q r := by
  have d := Dig.first h hn hu
  have e := Nat.div_mul_le_self u y1
  have t := h.high
  have t' := h.top
  refine ⟨u / y1, u / y1 * y1, u - u / y1 * y1, (Int.natCast_ediv u y1).symm, u64_mul _ _ (by omega), by omega, e, d.2.2.1, d.2.2.2, by omega, t', by omega, d⟩
theorem dig_test {u v y1 y0 n1 Q R : Nat} (h : Norm v y1 y0) (d : Dig u v y1 n1 Q R) (hn : n1 < 4294967296) (hu : u < v) (ht : 4294967296 ≤ Q ∨ 4294967296 * R + n1 < Q * y0) :
    0 < Q ∧ R < 4294967296 ∧ (R + y1 < 4294967296 → Dig u v y1 n1 (Q - 1) (R + y1)) ∧ (4294967296 ≤ R + y1 → DigAt u v n1 (Q - 1)) :=
  let ⟨a, b, c⟩ := d.less h hn hu ht; ⟨a, d.2.2.2, b, c⟩
theorem num_pred {Q : Nat} (h : (1 : Int) ≤ (Q : Int)) : Value.int .u64 ((Q : Int) - 1) = .int .u64 ((Q - 1 : Nat) : Int) := by
  have : (Q : Int) - 1 = ((Q - 1 : Nat) : Int) := by omega
  rw [this]
theorem num_add (a b : Nat) : Value.int .u64 ((a : Int) + (b : Int)) = .int .u64 ((a + b : Nat) : Int) := by rw [Int.natCast_add]
theorem ret_u64s {a b c d : Int} (h1 : a = c) (h2 : b = d) : Ending.returned (.tuple #[.int .u64 a, .int .u64 b]) = .returned (.tuple #[.int .u64 c, .int .u64 d]) := by rw [h1, h2]
theorem dig_bools {Q R y0 n1 : Nat} (h : 4294967296 ≤ Q ∨ 4294967296 * R + n1 < Q * y0) (hy0 : y0 < 4294967296) (hn : n1 < 4294967296) (hR : (R : Int) < 4294967296) :
    ∃ m : Nat, ((Q : Int) < 4294967296 → IntKind.u64.wrap ((Q : Int) * y0) = (m : Int)) ∧ (decide ((4294967296 : Int) ≤ (Q : Int)) = true ∨
      (decide ((4294967296 : Int) ≤ (Q : Int)) = false ∧ IntKind.u64.wrap ((Q : Int) * y0) = (m : Int) ∧ decide ((4294967296 : Int) * R + n1 < (m : Int)) = true)) := by
  refine ⟨Q * y0, ?_, ?_⟩
  · intro hq
    exact u64_mul Q y0 (by have := Nat.mul_le_mul (show Q ≤ 4294967295 by omega) (show y0 ≤ 4294967295 by omega); omega)
  · by_cases hq : 4294967296 ≤ Q
    · left; simp only [decide_eq_true_eq]; omega
    · right
      have hl := Nat.mul_le_mul (show Q ≤ 4294967295 by omega) (show y0 ≤ 4294967295 by omega)
      refine ⟨by simp only [decide_eq_false_iff_not]; omega, u64_mul Q y0 (by omega), ?_⟩
      rcases h with h | h
      · omega
      · simp only [decide_eq_true_eq]; omega
theorem dig_bools_no {Q R y0 n1 : Nat} (h : ¬ (4294967296 ≤ Q ∨ 4294967296 * R + n1 < Q * y0)) (hy0 : y0 < 4294967296) (hn : n1 < 4294967296) (hR : (R : Int) < 4294967296) :
    decide ((4294967296 : Int) ≤ (Q : Int)) = false ∧ ∃ m : Nat, IntKind.u64.wrap ((Q : Int) * y0) = (m : Int) ∧ decide ((4294967296 : Int) * R + n1 < (m : Int)) = false := by
  have hl := Nat.mul_le_mul (show Q ≤ 4294967295 by omega) (show y0 ≤ 4294967295 by omega)
  refine ⟨by simp only [decide_eq_false_iff_not]; omega, Q * y0, u64_mul Q y0 (by omega), ?_⟩
  simp only [decide_eq_false_iff_not]; omega
theorem rest_w {u v n1 Q : Nat} (d : DigAt u v n1 Q) (hu : u < v) (hn : n1 < 4294967296) (hv : v < 18446744073709551616) :
    ∃ r : Nat, IntKind.u64.wrap (IntKind.u64.wrap (IntKind.u64.wrap ((u : Int) * 4294967296) + n1) - IntKind.u64.wrap ((Q : Int) * v)) = (r : Int) ∧ Hid (r = (u * 4294967296 + n1) % v) ∧ r < v ∧ Q < 4294967296 := by
  obtain ⟨a, b, c⟩ := d.rest hu hn hv
  exact ⟨_, by simp only [IntKind.wrap_u64]; exact b, rfl, c, a⟩
theorem div_fin {hi lo y s v y1 y0 u n1 n0 q1 r1 q0 r0 : Nat} (h : Setup hi lo y s v y1 y0 u n1 n0) (d1 : DigAt u v n1 q1) (e1 : r1 = (u * 4294967296 + n1) % v)
    (d0 : DigAt r1 v n0 q0) (e0 : r0 = (r1 * 4294967296 + n0) % v) : q1 * 4294967296 + q0 = (hi * 18446744073709551616 + lo) / y ∧ r0 / 2 ^ s = (hi * 18446744073709551616 + lo) % y := by
  obtain ⟨a, b⟩ := two_digits u v n1 n0 (by have := h.ltu; omega)
  unfold DigAt at d1 d0
  rw [← h.quo, ← h.rem, a, b, ← e1, ← d1, ← e0, ← d0]
  exact ⟨rfl, rfl⟩
set_option maxHeartbeats 2000000 in
set_option maxRecDepth 100000 in
theorem div64_big (hi lo y : Nat) (w : World) (h0 : 0 < hi) (hh : hi < y) (hy : y < 18446744073709551616) (hlo : lo < 18446744073709551616) :
    Calls Tryz.prog 100 #[.int .u64 hi, .int .u64 lo, .int .u64 y] w fun e w' => e = .returned (.tuple #[.int .u64 (((hi * 18446744073709551616 + lo) / y : Nat) : Int), .int .u64 (((hi * 18446744073709551616 + lo) % y : Nat) : Int)]) ∧ w = w' := by
  have h1 : ((y : Int) == 0) = false := by simp; omega
  have h2 : ¬ (y : Int) ≤ hi := by omega
  have h3 : ((hi : Int) == 0) = false := by simp; omega
  go_enter Tryz.func100, Tryz.ntmps100
  go_upto_block 0 with (go_at_call 110; refine (lead64 y _ (by omega) hy).mono ?_; rintro e w' ⟨⟨s, rfl, hs, hs1, hs2⟩, rfl⟩; obtain ⟨v, y1, y0, u, n1, n0, n10, e1, e2, e3, e4, e5, e6, e7, hset⟩ := set_up hi lo y s hh hlo hs hs1 hs2; obtain ⟨q, p, r, e8, e9, e10, hp, hq, hr, hy1, hy2, hu, hd⟩ := dig_setup hset.norm hset.lt1 hset.ltu hset.ltv)
  have hn1 := hset.lt1
  have hn0 := hset.lt0
  have hy0 := hset.norm.low
  have hv := hset.ltv
  have hs' : (s : Int) ≤ 63 := by omega
  clear e1 e2 e3 e4 e5 e6 e7 e8 e9 e10 hs1 hs2 h1 h2 h3
  go_cut [15, 16] (fun s15 s16 wx => ∃ Q : Nat, s15 = .int .u64 Q ∧ DigAt u v n1 Q ∧ w = wx)
  case first =>
    go_wp2_with fail
    go_loop [15, 16] (fun s15 s16 => ∃ Q R : Nat, s15 = .int .u64 Q ∧ s16 = .int .u64 R ∧ Dig u v y1 n1 Q R) (fun s15 _ => (intOf s15).toNat)
    case atStart => exact ⟨q, r, rfl, rfl, hd⟩
    case round =>
      obtain ⟨Q, R, rfl, rfl, hdig⟩ := hrel
      have hqi : (Q : Int) ≤ 4294967297 := by have := hdig.2.2.1; omega
      have hR : (R : Int) < 4294967296 := by have := hdig.2.2.2; omega
      by_cases hb : 4294967296 ≤ Q ∨ 4294967296 * R + n1 < Q * y0
      · obtain ⟨g0, -, g1, g2⟩ := dig_test hset.norm hdig hn1 hset.ltu hb
        have hg0 : (1 : Int) ≤ (Q : Int) := by omega
        have ⟨m, hm, ht⟩ := dig_bools hb hy0 hn1 hR
        by_cases hc : R + y1 < 4294967296
        · have g := g1 hc
          have hcd : decide ((4294967296 : Int) ≤ (R : Int) + (y1 : Int)) = false := by simp only [decide_eq_false_iff_not]; omega
          clear g1 g2 hdig hb hc
          rcases ht with ht | ⟨ht, ht'⟩
          all_goals
            go_wp2_with fail
            go_round
            case rel => exact ⟨Q - 1, R + y1, num_pred hg0, num_add R y1, g⟩
            case measure => simp [intOf]; omega
        · have g := g2 (by omega)
          have hcd : decide ((4294967296 : Int) ≤ (R : Int) + (y1 : Int)) = true := by simp only [decide_eq_true_eq]; omega
          clear g1 g2 hdig hb hc
          rcases ht with ht | ⟨ht, ht'⟩
          all_goals
            go_wp2_with fail
            go_meet
            exact ⟨Q - 1, num_pred hg0, g, rfl⟩
      · obtain ⟨ht, m, hm, ht'⟩ := dig_bools_no hb hy0 hn1 hR
        have g : DigAt u v n1 Q := hdig.done hset.norm (by omega) (by omega)
        clear hdig hb
        go_wp2_with fail
        go_meet
        exact ⟨Q, rfl, g, rfl⟩
  case rest =>
    obtain ⟨Q1, rfl, d1, rfl⟩ := hcut
    obtain ⟨r1, e1, hr1, hv1, hQ1⟩ := rest_w d1 hset.ltu hn1 hv
    obtain ⟨q', p', r', e8, e9, e10, hp', hq', hr', -, -, hu', hd'⟩ := dig_setup hset.norm hn0 hv1 hv
    go_upto_block 2 with fail
    clear e1 e8 e9 e10
    go_cut [16, 18] (fun s16 s18 wx => ∃ Q : Nat, s18 = .int .u64 Q ∧ DigAt r1 v n0 Q ∧ w = wx)
    case first =>
      go_wp2_with fail
      go_loop [16, 18] (fun s16 s18 => ∃ Q R : Nat, s18 = .int .u64 Q ∧ s16 = .int .u64 R ∧ Dig r1 v y1 n0 Q R) (fun _ s18 => (intOf s18).toNat)
      case atStart => exact ⟨q', r', rfl, rfl, hd'⟩
      case round =>
        obtain ⟨Q, R, rfl, rfl, hdig⟩ := hrel
        have hqi : (Q : Int) ≤ 4294967297 := by have := hdig.2.2.1; omega
        have hR : (R : Int) < 4294967296 := by have := hdig.2.2.2; omega
        by_cases hb : 4294967296 ≤ Q ∨ 4294967296 * R + n0 < Q * y0
        · obtain ⟨g0, -, g1, g2⟩ := dig_test hset.norm hdig hn0 hv1 hb
          have hg0 : (1 : Int) ≤ (Q : Int) := by omega
          have ⟨m, hm, ht⟩ := dig_bools hb hy0 hn0 hR
          by_cases hc : R + y1 < 4294967296
          · have g := g1 hc
            have hcd : decide ((4294967296 : Int) ≤ (R : Int) + (y1 : Int)) = false := by simp only [decide_eq_false_iff_not]; omega
            clear g1 g2 hdig hb hc
            rcases ht with ht | ⟨ht, ht'⟩
            all_goals
              go_wp2_with fail
              go_round
              case rel => exact ⟨Q - 1, R + y1, num_pred hg0, num_add R y1, g⟩
              case measure => simp [intOf]; omega
          · have g := g2 (by omega)
            have hcd : decide ((4294967296 : Int) ≤ (R : Int) + (y1 : Int)) = true := by simp only [decide_eq_true_eq]; omega
            clear g1 g2 hdig hb hc
            rcases ht with ht | ⟨ht, ht'⟩
            all_goals
              go_wp2_with fail
              go_meet
              exact ⟨Q - 1, num_pred hg0, g, rfl⟩
        · obtain ⟨ht, m, hm, ht'⟩ := dig_bools_no hb hy0 hn0 hR
          have g : DigAt r1 v n0 Q := hdig.done hset.norm (by omega) (by omega)
          clear hdig hb
          go_wp2_with fail
          go_meet
          exact ⟨Q, rfl, g, rfl⟩
    case rest =>
      obtain ⟨Q0, rfl, d0, rfl⟩ := hcut
      obtain ⟨r0, e1, hr0, hv0, hQ0⟩ := rest_w d0 hv1 hn0 hv
      have hQ1' : (Q1 : Int) < 4294967296 := by omega
      have hQ0' : (Q0 : Int) < 4294967296 := by omega
      go_wp2_with fail
      go_ret2
      obtain ⟨f1, f2⟩ := div_fin hset d1 hr1.out d0 hr0.out
      refine ⟨?_, rfl⟩
      rw [← f1, ← f2]
      exact ret_u64s (by omega) (by rw [Int.natCast_ediv, Int.natCast_pow]; rfl)
theorem div64 (hi lo y : Nat) (w : World) (hh : hi < y) (hy : y < 18446744073709551616) (hlo : lo < 18446744073709551616) :
    Calls Tryz.prog 100 #[.int .u64 hi, .int .u64 lo, .int .u64 y] w fun e w' => e = .returned (.tuple #[.int .u64 (((hi * 18446744073709551616 + lo) / y : Nat) : Int), .int .u64 (((hi * 18446744073709551616 + lo) % y : Nat) : Int)]) ∧ ∃ n, w' = w.drewN n := by
  rcases Nat.eq_zero_or_pos hi with h | h
  · subst h
    rw [Nat.zero_mul, Nat.zero_add]
    exact div64_small lo y w hh hy hlo
  · exact (div64_big hi lo y w h hh hy hlo).mono fun e w' ⟨h1, h2⟩ => ⟨h1, 0, by rw [← h2]; rfl⟩
end Go.Proofs.YtfbiblmlcepdlaaGreat
