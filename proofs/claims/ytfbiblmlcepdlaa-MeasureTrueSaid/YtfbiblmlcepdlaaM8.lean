/- Parts of the proof, in build order. -/
import Derived.Test.YtfbiblmlcepdlaaM7
namespace Go.Proofs.Ytfbiblmlcepdlaa
open Go.RowKit
end Go.Proofs.Ytfbiblmlcepdlaa

namespace Go.Proofs.Ytfbiblmlcepdlaa
open Go.RowKit
/-! What is done with each cell. -/
end Go.Proofs.Ytfbiblmlcepdlaa

namespace Go.Proofs.Ytfbiblmlcepdlaa
open Go.RowKit
/-! Lists, some of whose numbers something is done with. -/
/-! Boxes. -/
section
variable {σ α : Type}
end
end Go.Proofs.Ytfbiblmlcepdlaa

namespace Go.Proofs.Ytfbiblmlcepdlaa
open Go.RowKit
def i3 (a b e : Int) : AOut := .ret (.tup [.int .i64 a, .int .i64 b, .int .i64 e])
end Go.Proofs.Ytfbiblmlcepdlaa

namespace Go.Proofs.Ytfbiblmlcepdlaa
open Go.RowKit
section
variable {σ τ α β : Type}
def LRes.map (e : σ → τ) (g : α → β) : LRes σ α → LRes τ β
  | .cont x => .cont (e x)
  | .brk id x => .brk id (e x)
  | .fin a => .fin (g a)
end
end Go.Proofs.Ytfbiblmlcepdlaa

namespace Go.Proofs.Ytfbiblmlcepdlaa
open Go.RowKit
section
variable {σ α : Type}
end
end Go.Proofs.Ytfbiblmlcepdlaa

namespace Go.Proofs.Ytfbiblmlcepdlaa
open Go.RowKit
def SimV (u v : AVal) : Prop := ∀ (h : List ABlk) (g : Gh) (w : World) (x : Value), Rep h g w u x → Rep h g w v x
theorem SimV.refl (u : AVal) : SimV u u := fun _ _ _ _ r => r
end Go.Proofs.Ytfbiblmlcepdlaa

namespace Go.Proofs.Ytfbiblmlcepdlaa
open Go.RowKit
end Go.Proofs.Ytfbiblmlcepdlaa

namespace Go.Proofs.Ytfbiblmlcepdlaa
open Go.RowKit
section
variable {α : Type}
end
end Go.Proofs.Ytfbiblmlcepdlaa

namespace Go.Proofs.Ytfbiblmlcepdlaa
open Go.RowKit
/-! Lists of numbers for which something holds. -/
end Go.Proofs.Ytfbiblmlcepdlaa

namespace Go.Proofs.Ytfbiblmlcepdlaa
open Go.RowKit
section
variable {α : Type}
end
end Go.Proofs.Ytfbiblmlcepdlaa

namespace Go.Proofs.Ytfbiblmlcepdlaa
open Go.RowKit
end Go.Proofs.Ytfbiblmlcepdlaa

namespace Go.Proofs.Ytfbiblmlcepdlaa
open Go.RowKit
end Go.Proofs.Ytfbiblmlcepdlaa

namespace Go.Proofs.Ytfbiblmlcepdlaa
section
variable {α : Type}
theorem any_from {σ : Type} {f : σ → Option (LRes σ α)} (st : Nat → σ) (p : Nat → Bool) {R E : Option (LRes σ α)} (hR : ∀ y, R ≠ some (.cont y)) (hE : ∀ y, E ≠ some (.cont y)) (n : Nat) (h : ∀ i, i < n → f (st i) = bif p i then R else some (.cont (st (i + 1)))) (hend : f (st n) = E) :
    ∀ k m, m + k = n → ∀ N, k < N → iterL N f (st m) = bif (List.range' m k).any p then R else E
  | 0, m, hm, N, hN => by
    cases N with
    | zero => omega
    | succ N =>
      have : m = n := by omega
      subst this
      simp only [iterL, hend]
      simp only [List.range'_zero, List.any_nil, cond_false]
  | k + 1, m, hm, N, hN => by
    cases N with
    | zero => omega
    | succ N =>
      have hf := h m (by omega)
      have ih := any_from st p hR hE n h hend k (m + 1) (by omega) N (by omega)
      rw [List.range'_succ, List.any_cons]
      cases hp : p m
      · rw [hp] at hf
        rw [Bool.false_or, ← ih]
        conv => lhs; unfold iterL
        rw [hf]
        rfl
      · rw [hp] at hf
        simp only [iterL, hf, cond_true, Bool.true_or]
theorem any_loop' {σ : Type} {f : σ → Option (LRes σ α)} {K : Nat → σ → Option α} (st : Nat → σ) (n : Nat) (p : Nat → Bool) {b : Nat} {y : σ} (R : Option α) (h : ∀ i, i < n → f (st i) = bif p i then finL R else some (.cont (st (i + 1)))) (hend : f (st n) = some (.brk b y)) {N : Nat} (hN : n < N) : afterL (iterL N f (st 0)) K = bif (List.range n).any p then R else K b y := by
  rw [any_from st p (fin_not R) (brk_not b y) n h hend n 0 (by omega) N hN, ← List.range_eq_range']
  cases (List.range n).any p
  · rfl
  · cases R <;> rfl
end
end Go.Proofs.Ytfbiblmlcepdlaa

namespace Go.Proofs.Ytfbiblmlcepdlaa
open Go.RowKit
def sameX {X : Type} (eq : X → X → Bool) (d : X) (l l' : List X) : Bool := bif (l.length : Int) != (l'.length : Int) then false else !((List.range l.length).any fun i => !(eq (l.getD i d) (l'.getD i d)))
def saF {α X : Type} (eq : X → X → Bool) (d : X) (l l' : List X) (R : Option α) (x : Int × Unit) : Option (LRes (Int × Unit) α) :=
  bif decide (x.1 < (l.length : Int)) then
    if 0 ≤ x.1 ∧ x.1 < (l.length : Int) then
      if 0 ≤ x.1 ∧ x.1 < (l'.length : Int) then
        bif !(eq (l.getD x.1.toNat d) (l'.getD x.1.toNat d)) then finL R else some (.cont (IntKind.i64.wrap (x.1 + 1), ()))
      else none
    else none
  else some (.brk 0 (x.1, ()))
theorem sa_loop {α X : Type} (eq : X → X → Bool) (d : X) (l l' : List X) (hl : l.length ≤ maxLen) (R : Bool → Option α) :
    (bif (l.length : Int) != (l'.length : Int) then R false else afterL (iterL (l.length + 1) (saF eq d l l' (R false)) (0, ())) fun id _ => if id = 0 then R true else none) = R (sameX eq d l l') := by
  unfold sameX
  cases h1 : ((l.length : Int) != (l'.length : Int))
  · have hl' : l.length = l'.length := by have := bne_eq_false_iff_eq.1 h1; omega
    simp only [cond_false]
    refine (any_loop (f := saF eq d l l' (R false)) (fun i : Nat => ((i : Int), ())) l.length (fun i => !(eq (l.getD i d) (l'.getD i d))) (R false) (fun i hi => ?_) (y := ((l.length : Int), ())) (b := 0) ?_).trans ?_
    · unfold saF
      simp only [lt_len hi, cond_true, in_len hi, in_len (show i < l'.length by omega), if_pos, and_self, decide_true, Int.toNat_natCast, wrap_next hi hl]
    · unfold saF
      simp only [not_lt_len, cond_false]
    · cases (List.range l.length).any fun i => !(eq (l.getD i d) (l'.getD i d)) <;> rfl
  · rfl
end Go.Proofs.Ytfbiblmlcepdlaa
