/- Parts of the proof, in build order. -/
import Derived.Test.YtopfebbijnhpfaaGreatM7
import Derived.WalkKit
import Derived.WalkSpells
import Derived.WalkLawsBesides
import Derived.RegionTactic
import Derived.LoopTactic
import Derived.Outline
import Derived.Below
import Derived.Lib.Hide
import Derived.StillTailTactics
import Derived.Maps.Own
import Derived.Test.YtopfebbijnhpfaaGreatM6
namespace Go.Proofs.YtopfebbijnhpfaaGreat
open Go.RowKit
theorem le_exe {K K2 : Nat → Prop} {h g} {w w' : World} {D : Nat} (s : St K2 h g w) (hM : ∀ b, g.M b → b ≠ D ∧ b ≠ D + 1) (hK : ∀ b, K b → (b ≠ D ∧ b ≠ D + 1) ∧ K2 b) (e : Exe w.heap.size D w w') : Le K h g w h g w' where
  len := Nat.le_refl _
  here := fun _ h => h
  m := fun _ h => h
  new := fun _ h => .inl h
  mw := fun b hb => e.block b (s.low b hb) (hM b hb).1 (hM b hb).2
  k := fun b hb => e.block b (s.klow b (hK b hb).2) (hK b hb).1.1 (hK b hb).1.2
  box := fun _ wr cs' _ h => ⟨wr, cs', h, rfl, rfl⟩
  row := fun _ wr _ _ xs' _ h => ⟨wr, xs', h, fun _ => rfl, rfl⟩
  lp := fun _ st pend _ _ _ _ _ h => ⟨st, pend, h, rfl⟩
  lockb := fun _ _ h => h
  lockr := fun _ _ _ _ h => h
  os := e.os
  tape := e.tape
  output := e.output
  size := e.size
theorem st_exe {K K2 : Nat → Prop} {h g} {w w' : World} {D : Nat} (s : St K2 h g w) (hD : K2 D ∧ K2 (D + 1)) (hM : ∀ b, g.M b → b ≠ D ∧ b ≠ D + 1) (hK : ∀ b, K b → (b ≠ D ∧ b ≠ D + 1) ∧ K2 b) (e : Exe w.heap.size D w w') : St K h g w' where
  blk := fun i b hb => (s.blk i b hb).mono (le_exe s hM hK e) rfl fun n hd hn => by
    obtain ⟨h1, h2, h3⟩ := s.sep i n ⟨b, hb, hd⟩ hn
    exact e.block n h3 (fun e' => h1 (by rw [e']; exact hD.1)) fun e' => h1 (by rw [e']; exact hD.2)
  inj := s.inj
  sep := fun i n ai hn => by
    obtain ⟨h1, h2, h3⟩ := s.sep i n ai hn
    exact ⟨fun hk => h1 (hK n hk).2, h2, Nat.lt_of_lt_of_le h3 e.size⟩
  low := fun b hb => Nat.lt_of_lt_of_le (s.low b hb) e.size
  klow := fun b hb => Nat.lt_of_lt_of_le (s.klow b (hK b hb).2) e.size
def tried2S (mis : TypeId) (fit : AVal → Bool) (zero : AVal) (cv : Cv) : Cv := fun _ v args h k =>
  match v, args with
  | .fn _ [], [.fn f caps] => cv _ (.fn f caps) [] h fun x u h1 =>
    match x with
    | .normal => if fit u = true then k .normal (.tup [u, .int .i64 0]) h1 else none
    | .pan (.ifc t (.agg [.int .i64 e])) => if t = mis then k .normal (.tup [zero, .int .i64 e]) h1 else none
    | _ => none
  | _, _ => none
structure Tried2Ok (P : Program) (f : FuncId) (mis : TypeId) (fit : AVal → Bool) (zf : AVal → Value) (zero : AVal) (zv : Value) : Prop where
  shape : ∀ h g w u z, fit u = true → Rep h g w u z → z = zf u
  rep : ∀ h g w u, fit u = true → Rep h g w u (zf u)
  repz : ∀ h g w, Rep h g w zero zv
  enter : ∀ args w, (callFunc f args).run P w = .ok (.enter f args) w
  ok : ∀ (K : FuncId) (caps : Array Value) (u : AVal) (Q : World → Prop), fit u = true → (∀ w, (callFunc K caps).run P w = .ok (.enter K caps) w) → ∀ (w : World),
    (∀ w1, Below w.heap.size w w1 → w.heap.size + 1 < w1.heap.size → Calls P K caps w1 fun e w' => e = .returned (zf u) ∧ w'.heap[w.heap.size]? = w1.heap[w.heap.size]? ∧ w'.heap[w.heap.size + 1]? = w1.heap[w.heap.size + 1]? ∧ w1.heap.size ≤ w'.heap.size ∧ Q w') →
    Calls P f #[.func (.func K) #[] caps] w fun e w' => e = .returned (.tuple #[zf u, .int .i64 0]) ∧ ∃ w2, Q w2 ∧ Exe w2.heap.size w.heap.size w2 w'
  err : ∀ (K : FuncId) (caps : Array Value) (c : Int) (Q : World → Prop), (∀ w, (callFunc K caps).run P w = .ok (.enter K caps) w) → ∀ (w : World),
    (∀ w1, Below w.heap.size w w1 → w.heap.size + 1 < w1.heap.size → Calls P K caps w1 fun e w' => e = .panicked [{ v := .iface mis (.agg #[.int .i64 c]), recovered := false }] ∧ w'.heap[w.heap.size]? = w1.heap[w.heap.size]? ∧ w'.heap[w.heap.size + 1]? = w1.heap[w.heap.size + 1]? ∧ w1.heap.size ≤ w'.heap.size ∧ Q w') →
    Calls P f #[.func (.func K) #[] caps] w fun e w' => e = .returned (.tuple #[zv, .int .i64 c]) ∧ ∃ w2, Q w2 ∧ Exe w2.heap.size w.heap.size w2 w'
theorem tried2_at {P : Program} {f : FuncId} {mis : TypeId} {fit : AVal → Bool} {zf : AVal → Value} {zero : AVal} {zv : Value} (ht : Tried2Ok P f mis fit zf zero zv) (cv : Cv) (hcv : CvOk P cv) (caps0 : List AVal) : CvAt P (tried2S mis fit zero cv) (.fn f caps0) where
  nat := fun α args h k => by
    unfold tried2S
    split
    · rename_i f' fk caps heq
      refine (hcv.nat _ (.fn fk caps) [] h _).trans (Eq.trans ?_ (congrArg (fun z : Option (AExit × AVal × List ABlk) => z.bind fun p => k p.1 p.2.1 p.2.2) (hcv.nat _ (.fn fk caps) [] h _).symm))
      cases cv _ (.fn fk caps) [] h tripE with
      | none => rfl
      | some p =>
        obtain ⟨x, u, h1⟩ := p
        simp only [Option.bind_some]
        split
        · split <;> rfl
        · split <;> rfl
        · rfl
    · rfl
  ok := fun args h x u h1 hk K g w fv cargs s hfv hl hr => by
    unfold tried2S at hk
    split at hk
    · rename_i f' fk caps heq
      cases heq
      rw [hcv.nat] at hk
      obtain ⟨carr, rfl, hcl⟩ := rep_fn hfv
      have hc0 : carr = #[] := Array.eq_empty_of_size_eq_zero hcl.symm
      subst hc0
      obtain ⟨l⟩ := cargs
      match l, hl with
      | [z], _ =>
        have hz := hr 0 _ z rfl rfl
        obtain ⟨karr, rfl, hkl⟩ := rep_fn hz
        -- the call below
        have below : ∀ x0 u0, cv _ (.fn fk caps) [] h tripE = some (x0, u0, h1) → ∀ w1, Below w.heap.size w w1 → w.heap.size + 1 < w1.heap.size →
            (∀ w, (callFunc fk karr).run P w = .ok (.enter fk karr) w) ∧ Calls P fk karr w1 (CvPost (fun b => K b ∨ b = w.heap.size ∨ b = w.heap.size + 1) h g w1 h1 x0 u0) := fun x0 u0 hc w1 hb hlt => by
          have s1 := s.below hb g.M (fun _ h => h) (fun _ h => .inl h) fun b hb' => Nat.lt_of_lt_of_le (s.low b hb') hb.size
          have l1 := le_below s hb g.M (fun _ h => h) (fun _ h => .inl h)
          have s2 : St (fun b => K b ∨ b = w.heap.size ∨ b = w.heap.size + 1) h g w1 := {
            blk := s1.blk
            inj := s1.inj
            sep := fun i b ha hn => by
              obtain ⟨a1, a2, a3⟩ := s1.sep i b ha hn
              obtain ⟨_, _, a4⟩ := s.sep i b ha hn
              exact ⟨fun hk => hk.elim a1 fun e => by omega, a2, a3⟩
            low := s1.low
            klow := fun b hb' => hb'.elim (s1.klow b) fun e => by omega }
          rcases hcv.ok (.fn fk caps) [] h x0 u0 h1 hc _ g w1 (.func (.func fk) #[] karr) #[] s2 (hz.mono l1) rfl (fun j c z hc => by simp at hc) with ⟨f2, c2, he, hen, hcall⟩ | ⟨_, _, _, _, _, he, _⟩ | ⟨_, _, _, _, ⟨z, hz, _⟩, _⟩
          · cases he
            simp only [Array.empty_append] at hen hcall
            exact ⟨hen, hcall⟩
          · cases he
          · simp at hz
        have hen : ∀ x0 u0, cv _ (.fn fk caps) [] h tripE = some (x0, u0, h1) → ∀ w, (callFunc fk karr).run P w = .ok (.enter fk karr) w := fun x0 u0 hc =>
          (below x0 u0 hc ((w.alloc (.cells #[] 0)).alloc (.cells #[] 0)) (((Below.refl _ _).alloc (Nat.le_refl _) _).alloc (by simp) _) (by simp)).1
        let Q : World → Prop := fun w2 => ∃ g', St (fun b => K b ∨ b = w.heap.size ∨ b = w.heap.size + 1) h1 g' w2 ∧ Le K h g w h1 g' w2 ∧ ∀ b, g'.M b → b ≠ w.heap.size ∧ b ≠ w.heap.size + 1
        have mkQ : ∀ w1 w2 g', Below w.heap.size w w1 → St (fun b => K b ∨ b = w.heap.size ∨ b = w.heap.size + 1) h1 g' w2 → Le (fun b => K b ∨ b = w.heap.size ∨ b = w.heap.size + 1) h g w1 h1 g' w2 → Q w2 := fun w1 w2 g' hb a1 a2 =>
          ⟨g', a1, (le_below s hb g.M (fun _ h => h) (fun _ h => .inl h)).trans (a2.less fun b hb => .inl hb), fun b hb' => (a2.new b hb').elim (fun h => by have := s.low b h; omega) fun h => ⟨fun e => h (.inr (.inl e)), fun e => h (.inr (.inr e))⟩⟩
        have fin : ∀ (n : Int) (u : AVal) (z : Value) w2 w', (∀ h g w, Rep h g w u z) → Q w2 → Exe w2.heap.size w.heap.size w2 w' → CvPost K h g w h1 .normal (.tup [u, .int .i64 n]) (.returned (.tuple #[z, .int .i64 n])) w' := fun n u z w2 w' hz ⟨g', a1, a2, a3⟩ e => by
          have hK : ∀ b, K b → (b ≠ w.heap.size ∧ b ≠ w.heap.size + 1) ∧ (K b ∨ b = w.heap.size ∨ b = w.heap.size + 1) := fun b hb => ⟨by have := s.klow b hb; omega, .inl hb⟩
          refine ⟨g', st_exe a1 ⟨.inr (.inl rfl), .inr (.inr rfl)⟩ a3 hK e, a2.trans (le_exe a1 a3 hK e), _, rfl, .tup _ _ rfl fun j c x hc hx => ?_⟩
          match j with
          | 0 => cases hc; cases hx; exact hz _ _ _
          | 1 => cases hc; cases hx; exact .int _ _
          | j + 2 => cases hc
        refine .inl ⟨f, #[], rfl, fun w => ht.enter _ w, ?_⟩
        show Calls P f #[.func (.func fk) #[] karr] w _
        cases hc : cv _ (.fn fk caps) [] h tripE with
        | none => rw [hc] at hk; cases hk
        | some p =>
          obtain ⟨x0, u0, h0⟩ := p
          rw [hc] at hk
          simp only [Option.bind_some] at hk
          split at hk
          · split at hk
            · rename_i hfit
              cases hk
              refine (ht.ok fk karr u0 Q hfit (hen _ _ hc) w fun w1 hb hlt => ((below _ _ hc w1 hb hlt).2).mono ?_).mono ?_
              · rintro e w' ⟨g', a1, a2, y, rfl, hy⟩
                have := ht.shape _ _ _ _ _ hfit hy
                subst this
                exact ⟨rfl, a2.k _ (.inr (.inl rfl)), a2.k _ (.inr (.inr rfl)), a2.size, mkQ w1 w' g' hb a1 a2⟩
              · rintro e w' ⟨rfl, w2, hq, hex⟩
                exact fin 0 u0 _ w2 w' (fun h g w => ht.rep h g w u0 hfit) hq hex
            · cases hk
          · rename_i t ee
            split at hk
            · rename_i ht'
              subst ht'
              cases hk
              refine (ht.err fk karr ee Q (hen _ _ hc) w fun w1 hb hlt => ((below _ _ hc w1 hb hlt).2).mono ?_).mono ?_
              · rintro e w' ⟨g', a1, a2, y, rfl, hy⟩
                cases hy with
                | ifc _ _ y hy =>
                  cases hy with
                  | agg _ arr hl' hr' =>
                    have hsz : arr.size = 1 := hl'.symm
                    have e0 := rep_int (hr' 0 _ arr[0] rfl (by simp))
                    have : arr = #[.int .i64 ee] := by
                      obtain ⟨l⟩ := arr
                      match l, hsz with
                      | [q], _ => simp at e0; rw [e0]
                    subst this
                    exact ⟨rfl, a2.k _ (.inr (.inl rfl)), a2.k _ (.inr (.inr rfl)), a2.size, mkQ w1 w' g' hb a1 a2⟩
              · rintro e w' ⟨rfl, w2, hq, hex⟩
                exact fin ee zero _ w2 w' ht.repz hq hex
            · cases hk
          · cases hk
    · cases hk
def fitI : AVal → Bool
  | .int .i64 _ => true
  | _ => false
def valI : AVal → Value
  | .int k n => .int k n
  | _ => .int .i64 0
theorem fitried_tried : Tried2Ok Tryz.prog 79 143 fitI valI (.int .i64 0) (.int .i64 0) where
  shape := fun h g w u z hu hr => by
    unfold fitI at hu
    split at hu
    · exact rep_int hr
    · cases hu
  rep := fun h g w u hu => by
    unfold fitI at hu
    split at hu
    · exact .int _ _
    · cases hu
  repz := fun h g w => .int _ _
  enter := fun args w => by kernel_rfl
  ok := fun K caps u Q hu he w h => by
    unfold fitI at hu
    split at hu
    · exact fitried_ok K caps _ Q he w h
    · cases hu
  err := fun K caps c Q he w h => fitried_err K caps c Q he w h
end Go.Proofs.YtopfebbijnhpfaaGreat

namespace Go.Proofs.YtopfebbijnhpfaaGreat
open Go.RowKit
theorem fbtried1_panic (b : Nat) (x : Bool) (y c : Int) (w : World) (hp : w.cell? ⟨b, 0, none⟩ = some (.bool x)) (hq : w.cell? ⟨b + 1, 0, none⟩ = some (.int .i64 y)) (fp : w.frozen? ⟨b, 0, none⟩ = false) (fq : w.frozen? ⟨b + 1, 0, none⟩ = false) (hqb : b + 1 < w.heap.size) :
    CallsD Tryz.prog 101 #[.pointer (some ⟨b, 0, none⟩), .pointer (some ⟨b + 1, 0, none⟩)] (.panicking (fxPanic c)) w fun e u' w' =>
      e = .returned (.tuple #[]) ∧ u' = .panicking [{ v := .iface 143 (.agg #[.int .i64 c]), recovered := true }] ∧ w'.cell? ⟨b, 0, none⟩ = some (.bool false) ∧ w'.cell? ⟨b + 1, 0, none⟩ = some (.int .i64 c) ∧ Exe w.heap.size b w w' := by
  refine callsD_of_wpS Tryz.func101 rfl fun c₀ cs hu => ?_
  apply wpS_seq
  apply wpS_region
  simp [wpOpsS, go_sem, recoverD, hu, fxPanic, Tryz.ntmps101, Exit.thenS, Array.replicate, List.replicate]
  refine wpS_of_wp ?_
  clear hu
  have hta := fun w => fxassert_yes c w
  have ha : ∀ o, Below w.heap.size w (w.alloc o) := fun o => (Below.refl _ _).alloc (Nat.le_refl _) o
  have hp' : ∀ o, (w.alloc o).cell? ⟨b, 0, none⟩ = some (.bool x) := fun o => ((ha o).cell (p := ⟨b, 0, none⟩) (by simp; omega)).trans hp
  have hq' : ∀ o, (w.alloc o).cell? ⟨b + 1, 0, none⟩ = some (.int .i64 y) := fun o => ((ha o).cell (p := ⟨b + 1, 0, none⟩) (by simp; omega)).trans hq
  have fp' : ∀ o, (w.alloc o).frozen? ⟨b, 0, none⟩ = false := fun o => ((ha o).frozen (p := ⟨b, 0, none⟩) (by simp; omega)).trans fp
  have fq' : ∀ o, (w.alloc o).frozen? ⟨b + 1, 0, none⟩ = false := fun o => ((ha o).frozen (p := ⟨b + 1, 0, none⟩) (by simp; omega)).trans fq
  clear ha
  go_wp2
  go_region
  all_goals
    go_big_unhide
    simp [bodyPostS, results, Tryz.results101, go_sem]
    refine ⟨cellSet _ (hp' _), cellSet (u := .int .i64 y) _ ((cellSetNe _ (by simp)).trans (hq' _)), ?_⟩
    exact (((Exe.of ((Below.refl w.heap.size w).alloc (Nat.le_refl _) _)).trans (.set _)).trans (.set1 _)).drew
theorem fbtried1_idle (b : Nat) (w : World) :
    CallsD Tryz.prog 101 #[.pointer (some ⟨b, 0, none⟩), .pointer (some ⟨b + 1, 0, none⟩)] .returning w fun e u' w' =>
      e = .returned (.tuple #[]) ∧ u' = .returning ∧ Below w.heap.size w w' := by
  refine callsD_of_wpS Tryz.func101 rfl fun c₀ cs hu => ?_
  apply wpS_seq
  apply wpS_region
  simp [wpOpsS, go_sem, recoverD, hu, Tryz.ntmps101, Exit.thenS, Array.replicate, List.replicate]
  refine wpS_of_wp ?_
  have hta := fun w => fxassert_nil w
  go_wp2
  all_goals
    simp [bodyPostS, results, Tryz.results101, go_sem]
    exact ⟨.returning, by cases c₀; simp_all, rfl, (Below.refl _ _).alloc (Nat.le_refl _) _⟩
set_option maxHeartbeats 1000000 in
theorem fbtried_ok (K : FuncId) (caps : Array Value) (v : Bool) (Q : World → Prop) (he : ∀ w, (callFunc K caps).run Tryz.prog w = .ok (.enter K caps) w) (w : World)
    (h : ∀ w1, Below w.heap.size w w1 → w.heap.size + 1 < w1.heap.size → Calls Tryz.prog K caps w1 fun e w' => e = .returned (.bool v) ∧ w'.heap[w.heap.size]? = w1.heap[w.heap.size]? ∧ w'.heap[w.heap.size + 1]? = w1.heap[w.heap.size + 1]? ∧ w1.heap.size ≤ w'.heap.size ∧ Q w') :
    Calls Tryz.prog 70 #[.func (.func K) #[] caps] w fun e w' => e = .returned (.tuple #[.bool v, .int .i64 0]) ∧ ∃ w2, Q w2 ∧ Exe w2.heap.size w.heap.size w2 w' := by
  have hmf : ∀ (fn : Fn) (first cap : Array Value) (w : World), (Instr.makeFunc fn first cap).run Tryz.prog w = .ok (.func fn first cap) w := fun _ _ _ _ => rfl
  have HH := hidOf h
  have hcall : ∀ w, (callFunc K caps).run Tryz.prog w = .ok (.enter K caps) w := he
  clear h he
  go_enter_defers Tryz.func70, Tryz.ntmps70
  go_wp2_with (go_at_fn K; refine (HH.out _ (((Below.refl _ _).alloc (Nat.le_refl _) _).alloc (by simp) _) (by simp)).mono ?_; rintro e w1 ⟨rfl, hb1, hb2, hz1, hq⟩; obtain ⟨hc1, hc2, hf1, hf2⟩ := two_kept hb1 hb2; have hz : w.heap.size + 1 < w1.heap.size := (by simp at hz1; omega); have hd1 := hc1 0; have hd2 := hc2 0)
  refine leaves_cons (f := 101) (args := #[.pointer (some ⟨w.heap.size, 0, none⟩), .pointer (some ⟨w.heap.size + 1, 0, none⟩)]) (by simp) (by simp [go_sem]) ?_
  have hs : ((w1.setCell ⟨w.heap.size, 0, none⟩ (.bool v)).setCell ⟨w.heap.size + 1, 0, none⟩ (.int .i64 0)).heap.size = w1.heap.size := by simp [World.setCell]
  refine (fbtried1_idle w.heap.size _).mono ?_
  rintro e u' w2 ⟨rfl, rfl, hb2⟩
  rw [hs] at hb2
  have g1 : w2.cell? ⟨w.heap.size, 0, none⟩ = some (.bool v) := by
    rw [hb2.cell (p := ⟨w.heap.size, 0, none⟩) (by show w.heap.size < _; omega), cellSetNe _ (by simp)]
    exact cellSet _ hd1
  have g2 : w2.cell? ⟨w.heap.size + 1, 0, none⟩ = some (.int .i64 0) := by
    rw [hb2.cell (p := ⟨w.heap.size + 1, 0, none⟩) hz]
    exact cellSet (u := .int .i64 0) _ ((cellSetNe _ (by simp)).trans hd2)
  clear HH hcall hmf hc1 hc2 hf1 hf2 hd1 hd2
  simp [Leaves, settle, results, Tryz.results70, go_sem, g1, g2]
  exact ⟨w1, hq, ((Exe.set _).trans (.set1 _)).trans (Exe.of hb2)⟩
set_option maxHeartbeats 1000000 in
theorem fbtried_err (K : FuncId) (caps : Array Value) (c : Int) (Q : World → Prop) (he : ∀ w, (callFunc K caps).run Tryz.prog w = .ok (.enter K caps) w) (w : World)
    (h : ∀ w1, Below w.heap.size w w1 → w.heap.size + 1 < w1.heap.size → Calls Tryz.prog K caps w1 fun e w' => e = .panicked (fxPanic c) ∧ w'.heap[w.heap.size]? = w1.heap[w.heap.size]? ∧ w'.heap[w.heap.size + 1]? = w1.heap[w.heap.size + 1]? ∧ w1.heap.size ≤ w'.heap.size ∧ Q w') :
    Calls Tryz.prog 70 #[.func (.func K) #[] caps] w fun e w' => e = .returned (.tuple #[.bool false, .int .i64 c]) ∧ ∃ w2, Q w2 ∧ Exe w2.heap.size w.heap.size w2 w' := by
  have hmf : ∀ (fn : Fn) (first cap : Array Value) (w : World), (Instr.makeFunc fn first cap).run Tryz.prog w = .ok (.func fn first cap) w := fun _ _ _ _ => rfl
  have HH := hidOf h
  have hcall : ∀ w, (callFunc K caps).run Tryz.prog w = .ok (.enter K caps) w := he
  clear h he
  go_enter_defers Tryz.func70, Tryz.ntmps70
  go_wp2_with (go_at_fn K; refine (HH.out _ (((Below.refl _ _).alloc (Nat.le_refl _) _).alloc (by simp) _) (by simp)).mono ?_; rintro e w1 ⟨rfl, hb1, hb2, hz1, hq⟩; obtain ⟨hc1, hc2, hf1, hf2⟩ := two_kept hb1 hb2; have hz : w.heap.size + 1 < w1.heap.size := (by simp at hz1; omega))
  refine leaves_cons (f := 101) (args := #[.pointer (some ⟨w.heap.size, 0, none⟩), .pointer (some ⟨w.heap.size + 1, 0, none⟩)]) (by simp) (by simp [go_sem]) ?_
  refine (fbtried1_panic w.heap.size false 0 c _ (hc1 0) (hc2 0) (hf1 0) (hf2 0) hz).mono ?_
  rintro e u' w2 ⟨rfl, rfl, g1, g2, hb2⟩
  clear HH hcall hmf hc1 hc2 hf1 hf2
  simp [Leaves, settle, results, Tryz.results70, go_sem, g1, g2]
  exact ⟨w1, hq, hb2⟩
def fitB0 : AVal → Bool
  | .bool _ => true
  | _ => false
def valB0 : AVal → Value
  | .bool b => .bool b
  | _ => .bool false
theorem fbtried_tried : Tried2Ok Tryz.prog 70 143 fitB0 valB0 (.bool false) (.bool false) where
  shape := fun h g w u z hu hr => by
    unfold fitB0 at hu
    split at hu
    · exact rep_bool hr
    · cases hu
  rep := fun h g w u hu => by
    unfold fitB0 at hu
    split at hu
    · exact .bool _
    · cases hu
  repz := fun h g w => .bool _
  enter := fun args w => by kernel_rfl
  ok := fun K caps u Q hu he w h => by
    unfold fitB0 at hu
    split at hu
    · exact fbtried_ok K caps _ Q he w h
    · cases hu
  err := fun K caps c Q he w h => fbtried_err K caps c Q he w h
end Go.Proofs.YtopfebbijnhpfaaGreat

namespace Go.Proofs.YtopfebbijnhpfaaGreat
open Go.RowKit
theorem Exe.setO {n D : Nat} {w : World} (o : Nat) (v : Value) : Exe n D w (w.setCell ⟨D, o, none⟩ v) :=
  ⟨rfl, rfl, rfl, by simp [World.setCell], fun k _ hd _ => Below.heap_setCell _ _ _ _ hd⟩
theorem fstried1_panic (b : Nat) (x x2 y c : Int) (w : World) (hp : w.cell? ⟨b, 0, none⟩ = some (.int .i64 x)) (hp2 : w.cell? ⟨b, 1, none⟩ = some (.int .i64 x2)) (hq : w.cell? ⟨b + 1, 0, none⟩ = some (.int .i64 y)) (fp : w.frozen? ⟨b, 0, none⟩ = false) (fp2 : w.frozen? ⟨b, 1, none⟩ = false) (fq : w.frozen? ⟨b + 1, 0, none⟩ = false) (hqb : b + 1 < w.heap.size) :
    CallsD Tryz.prog 91 #[.pointer (some ⟨b, 0, none⟩), .pointer (some ⟨b + 1, 0, none⟩)] (.panicking (fxPanic c)) w fun e u' w' =>
      e = .returned (.tuple #[]) ∧ u' = .panicking [{ v := .iface 143 (.agg #[.int .i64 c]), recovered := true }] ∧ w'.cell? ⟨b, 0, none⟩ = some (.int .i64 0) ∧ w'.cell? ⟨b, 1, none⟩ = some (.int .i64 0) ∧ w'.cell? ⟨b + 1, 0, none⟩ = some (.int .i64 c) ∧ Exe w.heap.size b w w' := by
  refine callsD_of_wpS Tryz.func91 rfl fun c₀ cs hu => ?_
  apply wpS_seq
  apply wpS_region
  simp [wpOpsS, go_sem, recoverD, hu, fxPanic, Tryz.ntmps91, Exit.thenS, Array.replicate, List.replicate]
  refine wpS_of_wp ?_
  clear hu
  have hta := fun w => fxassert_yes c w
  have ha : ∀ o o', Below w.heap.size w ((w.alloc o).alloc o') := fun o o' => ((Below.refl _ _).alloc (Nat.le_refl _) o).alloc (by simp) o'
  have hp' : ∀ o o', ((w.alloc o).alloc o').cell? ⟨b, 0, none⟩ = some (.int .i64 x) := fun o o' => ((ha o o').cell (p := ⟨b, 0, none⟩) (by simp; omega)).trans hp
  have hp2' : ∀ o o', ((w.alloc o).alloc o').cell? ⟨b, 1, none⟩ = some (.int .i64 x2) := fun o o' => ((ha o o').cell (p := ⟨b, 1, none⟩) (by simp; omega)).trans hp2
  have hq' : ∀ o o', ((w.alloc o).alloc o').cell? ⟨b + 1, 0, none⟩ = some (.int .i64 y) := fun o o' => ((ha o o').cell (p := ⟨b + 1, 0, none⟩) (by simp; omega)).trans hq
  have fp' : ∀ o o', ((w.alloc o).alloc o').frozen? ⟨b, 0, none⟩ = false := fun o o' => ((ha o o').frozen (p := ⟨b, 0, none⟩) (by simp; omega)).trans fp
  have fp2' : ∀ o o', ((w.alloc o).alloc o').frozen? ⟨b, 1, none⟩ = false := fun o o' => ((ha o o').frozen (p := ⟨b, 1, none⟩) (by simp; omega)).trans fp2
  have fq' : ∀ o o', ((w.alloc o).alloc o').frozen? ⟨b + 1, 0, none⟩ = false := fun o o' => ((ha o o').frozen (p := ⟨b + 1, 0, none⟩) (by simp; omega)).trans fq
  clear ha
  go_wp2
  go_region
  all_goals
    go_big_unhide
    simp [bodyPostS, results, Tryz.results91, go_sem]
    refine ⟨cellSet _ (hp' _ _), cellSet (u := .int .i64 x2) _ ((cellSetNe _ (by simp)).trans (hp2' _ _)), cellSet (u := .int .i64 y) _ ((cellSetNe _ (by simp)).trans ((cellSetNe _ (by simp)).trans (hq' _ _))), ?_⟩
    exact ((((Exe.of (((Below.refl w.heap.size w).alloc (Nat.le_refl _) _).alloc (by simp) _)).trans (.setO 0 _)).trans (.setO 1 _)).trans (.set1 _)).drew
theorem fstried1_idle (b : Nat) (w : World) :
    CallsD Tryz.prog 91 #[.pointer (some ⟨b, 0, none⟩), .pointer (some ⟨b + 1, 0, none⟩)] .returning w fun e u' w' =>
      e = .returned (.tuple #[]) ∧ u' = .returning ∧ Below w.heap.size w w' := by
  refine callsD_of_wpS Tryz.func91 rfl fun c₀ cs hu => ?_
  apply wpS_seq
  apply wpS_region
  simp [wpOpsS, go_sem, recoverD, hu, Tryz.ntmps91, Exit.thenS, Array.replicate, List.replicate]
  refine wpS_of_wp ?_
  have hta := fun w => fxassert_nil w
  go_wp2
  all_goals
    simp [bodyPostS, results, Tryz.results91, go_sem]
    exact ⟨.returning, by cases c₀; simp_all, rfl, (Below.refl _ _).alloc (Nat.le_refl _) _⟩
set_option maxHeartbeats 1000000 in
theorem fstried_ok (K : FuncId) (caps : Array Value) (v v2 : Int) (Q : World → Prop) (he : ∀ w, (callFunc K caps).run Tryz.prog w = .ok (.enter K caps) w) (w : World)
    (h : ∀ w1, Below w.heap.size w w1 → w.heap.size + 1 < w1.heap.size → Calls Tryz.prog K caps w1 fun e w' => e = .returned (.agg #[.int .i64 v, .int .i64 v2]) ∧ w'.heap[w.heap.size]? = w1.heap[w.heap.size]? ∧ w'.heap[w.heap.size + 1]? = w1.heap[w.heap.size + 1]? ∧ w1.heap.size ≤ w'.heap.size ∧ Q w') :
    Calls Tryz.prog 51 #[.func (.func K) #[] caps] w fun e w' => e = .returned (.tuple #[.agg #[.int .i64 v, .int .i64 v2], .int .i64 0]) ∧ ∃ w2, Q w2 ∧ Exe w2.heap.size w.heap.size w2 w' := by
  have hmf : ∀ (fn : Fn) (first cap : Array Value) (w : World), (Instr.makeFunc fn first cap).run Tryz.prog w = .ok (.func fn first cap) w := fun _ _ _ _ => rfl
  have HH := hidOf h
  have hcall : ∀ w, (callFunc K caps).run Tryz.prog w = .ok (.enter K caps) w := he
  clear h he
  go_enter_defers Tryz.func51, Tryz.ntmps51
  go_wp2_with (go_at_fn K; refine (HH.out _ (((Below.refl _ _).alloc (Nat.le_refl _) _).alloc (by simp) _) (by simp)).mono ?_; rintro e w1 ⟨rfl, hb1, hb2, hz1, hq⟩; obtain ⟨hc1, hc2, hf1, hf2⟩ := two_kept hb1 hb2; have hz : w.heap.size + 1 < w1.heap.size := (by simp at hz1; omega); have hd1 := hc1 0; have hd3 := hc1 1; have hd2 := hc2 0)
  refine leaves_cons (f := 91) (args := #[.pointer (some ⟨w.heap.size, 0, none⟩), .pointer (some ⟨w.heap.size + 1, 0, none⟩)]) (by simp) (by simp [go_sem]) ?_
  have hs : (((w1.setCell ⟨w.heap.size, 0, none⟩ (.int .i64 v)).setCell ⟨w.heap.size, 1, none⟩ (.int .i64 v2)).setCell ⟨w.heap.size + 1, 0, none⟩ (.int .i64 0)).heap.size = w1.heap.size := by simp [World.setCell]
  refine (fstried1_idle w.heap.size _).mono ?_
  rintro e u' w2 ⟨rfl, rfl, hb2⟩
  rw [hs] at hb2
  have g1 : w2.cell? ⟨w.heap.size, 0, none⟩ = some (.int .i64 v) := by
    rw [hb2.cell (p := ⟨w.heap.size, 0, none⟩) (by show w.heap.size < _; omega), cellSetNe _ (by simp), cellSetNe _ (by simp)]
    exact cellSet _ hd1
  have g3 : w2.cell? ⟨w.heap.size, 1, none⟩ = some (.int .i64 v2) := by
    rw [hb2.cell (p := ⟨w.heap.size, 1, none⟩) (by show w.heap.size < _; omega), cellSetNe _ (by simp)]
    exact cellSet (u := .int .i64 0) _ ((cellSetNe _ (by simp)).trans hd3)
  have g2 : w2.cell? ⟨w.heap.size + 1, 0, none⟩ = some (.int .i64 0) := by
    rw [hb2.cell (p := ⟨w.heap.size + 1, 0, none⟩) hz]
    exact cellSet (u := .int .i64 0) _ ((cellSetNe _ (by simp)).trans ((cellSetNe _ (by simp)).trans hd2))
  clear HH hcall hmf hc1 hc2 hf1 hf2 hd1 hd2 hd3
  simp [Leaves, settle, results, Tryz.results51, go_sem, g1, g2, g3]
  exact ⟨w1, hq, (((Exe.setO 0 _).trans (.setO 1 _)).trans (.set1 _)).trans (Exe.of hb2)⟩
set_option maxHeartbeats 1000000 in
theorem fstried_err (K : FuncId) (caps : Array Value) (c : Int) (Q : World → Prop) (he : ∀ w, (callFunc K caps).run Tryz.prog w = .ok (.enter K caps) w) (w : World)
    (h : ∀ w1, Below w.heap.size w w1 → w.heap.size + 1 < w1.heap.size → Calls Tryz.prog K caps w1 fun e w' => e = .panicked (fxPanic c) ∧ w'.heap[w.heap.size]? = w1.heap[w.heap.size]? ∧ w'.heap[w.heap.size + 1]? = w1.heap[w.heap.size + 1]? ∧ w1.heap.size ≤ w'.heap.size ∧ Q w') :
    Calls Tryz.prog 51 #[.func (.func K) #[] caps] w fun e w' => e = .returned (.tuple #[.agg #[.int .i64 0, .int .i64 0], .int .i64 c]) ∧ ∃ w2, Q w2 ∧ Exe w2.heap.size w.heap.size w2 w' := by
  have hmf : ∀ (fn : Fn) (first cap : Array Value) (w : World), (Instr.makeFunc fn first cap).run Tryz.prog w = .ok (.func fn first cap) w := fun _ _ _ _ => rfl
  have HH := hidOf h
  have hcall : ∀ w, (callFunc K caps).run Tryz.prog w = .ok (.enter K caps) w := he
  clear h he
  go_enter_defers Tryz.func51, Tryz.ntmps51
  go_wp2_with (go_at_fn K; refine (HH.out _ (((Below.refl _ _).alloc (Nat.le_refl _) _).alloc (by simp) _) (by simp)).mono ?_; rintro e w1 ⟨rfl, hb1, hb2, hz1, hq⟩; obtain ⟨hc1, hc2, hf1, hf2⟩ := two_kept hb1 hb2; have hz : w.heap.size + 1 < w1.heap.size := (by simp at hz1; omega))
  refine leaves_cons (f := 91) (args := #[.pointer (some ⟨w.heap.size, 0, none⟩), .pointer (some ⟨w.heap.size + 1, 0, none⟩)]) (by simp) (by simp [go_sem]) ?_
  refine (fstried1_panic w.heap.size 0 0 0 c _ (hc1 0) (hc1 1) (hc2 0) (hf1 0) (hf1 1) (hf2 0) hz).mono ?_
  rintro e u' w2 ⟨rfl, rfl, g1, g3, g2, hb2⟩
  clear HH hcall hmf hc1 hc2 hf1 hf2
  simp [Leaves, settle, results, Tryz.results51, go_sem, g1, g2, g3]
  exact ⟨w1, hq, hb2⟩
def fitSp : AVal → Bool
  | .agg [.int .i64 _, .int .i64 _] => true
  | _ => false
def valSp : AVal → Value
  | .agg [.int _ a, .int _ b] => .agg #[.int .i64 a, .int .i64 b]
  | _ => .int .i64 0
theorem fstried_tried : Tried2Ok Tryz.prog 51 143 fitSp valSp (.agg [.int .i64 0, .int .i64 0]) (.agg #[.int .i64 0, .int .i64 0]) where
  shape := fun h g w u z hu hr => by
    unfold fitSp at hu
    split at hu
    · cases hr with
      | agg _ arr hl hr =>
        obtain ⟨l⟩ := arr
        match l, hl with
        | [p, q], _ =>
          have e0 := rep_int (hr 0 _ p rfl rfl)
          have e1 := rep_int (hr 1 _ q rfl rfl)
          subst e0; subst e1
          rfl
    · cases hu
  rep := fun h g w u hu => by
    unfold fitSp at hu
    split at hu
    · refine .agg _ _ rfl fun j c x hc hx => ?_
      match j with
      | 0 => cases hc; cases hx; exact .int _ _
      | 1 => cases hc; cases hx; exact .int _ _
      | j + 2 => cases hc
    · cases hu
  repz := fun h g w => by
    refine .agg _ _ rfl fun j c x hc hx => ?_
    match j with
    | 0 => cases hc; cases hx; exact .int _ _
    | 1 => cases hc; cases hx; exact .int _ _
    | j + 2 => cases hc
  enter := fun args w => by kernel_rfl
  ok := fun K caps u Q hu he w h => by
    unfold fitSp at hu
    split at hu
    · exact fstried_ok K caps _ _ Q he w h
    · cases hu
  err := fun K caps c Q he w h => fstried_err K caps c Q he w h
end Go.Proofs.YtopfebbijnhpfaaGreat

namespace Go.Proofs.YtopfebbijnhpfaaGreat
open Go.RowKit
theorem frtried1_panic (b : Nat) (x : Value) (y c : Int) (w : World) (hp : w.cell? ⟨b, 0, none⟩ = some x) (hq : w.cell? ⟨b + 1, 0, none⟩ = some (.int .i64 y)) (fp : w.frozen? ⟨b, 0, none⟩ = false) (fq : w.frozen? ⟨b + 1, 0, none⟩ = false) (hqb : b + 1 < w.heap.size) :
    CallsD Tryz.prog 114 #[.pointer (some ⟨b, 0, none⟩), .pointer (some ⟨b + 1, 0, none⟩)] (.panicking (fxPanic c)) w fun e u' w' =>
      e = .returned (.tuple #[]) ∧ u' = .panicking [{ v := .iface 143 (.agg #[.int .i64 c]), recovered := true }] ∧ w'.cell? ⟨b, 0, none⟩ = some .nilFunc ∧ w'.cell? ⟨b + 1, 0, none⟩ = some (.int .i64 c) ∧ Exe w.heap.size b w w' := by
  refine callsD_of_wpS Tryz.func114 rfl fun c₀ cs hu => ?_
  apply wpS_seq
  apply wpS_region
  simp [wpOpsS, go_sem, recoverD, hu, fxPanic, Tryz.ntmps114, Exit.thenS, Array.replicate, List.replicate]
  refine wpS_of_wp ?_
  clear hu
  have hta := fun w => fxassert_yes c w
  have hst : ∀ w' m, (store ⟨b, 0, none⟩ Value.nilFunc m).run Tryz.prog w' = stored Tryz.prog w' ⟨b, 0, none⟩ Value.nilFunc m := fun w' m => run_store Tryz.prog w' _ _ m rfl
  have ha : ∀ o, Below w.heap.size w (w.alloc o) := fun o => (Below.refl _ _).alloc (Nat.le_refl _) o
  have hp' : ∀ o, (w.alloc o).cell? ⟨b, 0, none⟩ = some x := fun o => ((ha o).cell (p := ⟨b, 0, none⟩) (by simp; omega)).trans hp
  have hq' : ∀ o, (w.alloc o).cell? ⟨b + 1, 0, none⟩ = some (.int .i64 y) := fun o => ((ha o).cell (p := ⟨b + 1, 0, none⟩) (by simp; omega)).trans hq
  have fp' : ∀ o, (w.alloc o).frozen? ⟨b, 0, none⟩ = false := fun o => ((ha o).frozen (p := ⟨b, 0, none⟩) (by simp; omega)).trans fp
  have fq' : ∀ o, (w.alloc o).frozen? ⟨b + 1, 0, none⟩ = false := fun o => ((ha o).frozen (p := ⟨b + 1, 0, none⟩) (by simp; omega)).trans fq
  clear ha
  go_wp2
  go_region
  all_goals
    go_big_unhide
    simp [bodyPostS, results, Tryz.results114, go_sem]
    refine ⟨cellSet _ (hp' _), cellSet (u := .int .i64 y) _ ((cellSetNe _ (by simp)).trans (hq' _)), ?_⟩
    exact (((Exe.of ((Below.refl w.heap.size w).alloc (Nat.le_refl _) _)).trans (.set _)).trans (.set1 _)).drew
theorem frtried1_idle (b : Nat) (w : World) :
    CallsD Tryz.prog 114 #[.pointer (some ⟨b, 0, none⟩), .pointer (some ⟨b + 1, 0, none⟩)] .returning w fun e u' w' =>
      e = .returned (.tuple #[]) ∧ u' = .returning ∧ Below w.heap.size w w' := by
  refine callsD_of_wpS Tryz.func114 rfl fun c₀ cs hu => ?_
  apply wpS_seq
  apply wpS_region
  simp [wpOpsS, go_sem, recoverD, hu, Tryz.ntmps114, Exit.thenS, Array.replicate, List.replicate]
  refine wpS_of_wp ?_
  have hta := fun w => fxassert_nil w
  go_wp2
  all_goals
    simp [bodyPostS, results, Tryz.results114, go_sem]
    exact ⟨.returning, by cases c₀; simp_all, rfl, (Below.refl _ _).alloc (Nat.le_refl _) _⟩
set_option maxHeartbeats 1000000 in
theorem frtried_ok (K : FuncId) (caps : Array Value) (v : FuncId) (Q : World → Prop) (he : ∀ w, (callFunc K caps).run Tryz.prog w = .ok (.enter K caps) w) (w : World)
    (h : ∀ w1, Below w.heap.size w w1 → w.heap.size + 1 < w1.heap.size → Calls Tryz.prog K caps w1 fun e w' => e = .returned (.func (.func v) #[] #[]) ∧ w'.heap[w.heap.size]? = w1.heap[w.heap.size]? ∧ w'.heap[w.heap.size + 1]? = w1.heap[w.heap.size + 1]? ∧ w1.heap.size ≤ w'.heap.size ∧ Q w') :
    Calls Tryz.prog 85 #[.func (.func K) #[] caps] w fun e w' => e = .returned (.tuple #[.func (.func v) #[] #[], .int .i64 0]) ∧ ∃ w2, Q w2 ∧ Exe w2.heap.size w.heap.size w2 w' := by
  have hmf : ∀ (fn : Fn) (first cap : Array Value) (w : World), (Instr.makeFunc fn first cap).run Tryz.prog w = .ok (.func fn first cap) w := fun _ _ _ _ => rfl
  have hst : ∀ w' m, (store ⟨w.heap.size, 0, none⟩ (Value.func (.func v) #[] #[]) m).run Tryz.prog w' = stored Tryz.prog w' ⟨w.heap.size, 0, none⟩ (Value.func (.func v) #[] #[]) m := fun w' m => run_store Tryz.prog w' _ _ m rfl
  have HH := hidOf h
  have hcall : ∀ w, (callFunc K caps).run Tryz.prog w = .ok (.enter K caps) w := he
  clear h he
  go_enter_defers Tryz.func85, Tryz.ntmps85
  go_wp2_with (go_at_fn K; refine (HH.out _ (((Below.refl _ _).alloc (Nat.le_refl _) _).alloc (by simp) _) (by simp)).mono ?_; rintro e w1 ⟨rfl, hb1, hb2, hz1, hq⟩; obtain ⟨hc1, hc2, hf1, hf2⟩ := two_kept hb1 hb2; have hz : w.heap.size + 1 < w1.heap.size := (by simp at hz1; omega); have hd1 := hc1 0; have hd2 := hc2 0)
  refine leaves_cons (f := 114) (args := #[.pointer (some ⟨w.heap.size, 0, none⟩), .pointer (some ⟨w.heap.size + 1, 0, none⟩)]) (by simp) (by simp [go_sem]) ?_
  have hs : ((w1.setCell ⟨w.heap.size, 0, none⟩ (.func (.func v) #[] #[])).setCell ⟨w.heap.size + 1, 0, none⟩ (.int .i64 0)).heap.size = w1.heap.size := by simp [World.setCell]
  refine (frtried1_idle w.heap.size _).mono ?_
  rintro e u' w2 ⟨rfl, rfl, hb2⟩
  rw [hs] at hb2
  have g1 : w2.cell? ⟨w.heap.size, 0, none⟩ = some (.func (.func v) #[] #[]) := by
    rw [hb2.cell (p := ⟨w.heap.size, 0, none⟩) (by show w.heap.size < _; omega), cellSetNe _ (by simp)]
    exact cellSet _ hd1
  have g2 : w2.cell? ⟨w.heap.size + 1, 0, none⟩ = some (.int .i64 0) := by
    rw [hb2.cell (p := ⟨w.heap.size + 1, 0, none⟩) hz]
    exact cellSet (u := .int .i64 0) _ ((cellSetNe _ (by simp)).trans hd2)
  clear HH hcall hmf hc1 hc2 hf1 hf2 hd1 hd2
  simp [Leaves, settle, results, Tryz.results85, go_sem, g1, g2]
  exact ⟨w1, hq, ((Exe.set _).trans (.set1 _)).trans (Exe.of hb2)⟩
set_option maxHeartbeats 1000000 in
theorem frtried_err (K : FuncId) (caps : Array Value) (c : Int) (Q : World → Prop) (he : ∀ w, (callFunc K caps).run Tryz.prog w = .ok (.enter K caps) w) (w : World)
    (h : ∀ w1, Below w.heap.size w w1 → w.heap.size + 1 < w1.heap.size → Calls Tryz.prog K caps w1 fun e w' => e = .panicked (fxPanic c) ∧ w'.heap[w.heap.size]? = w1.heap[w.heap.size]? ∧ w'.heap[w.heap.size + 1]? = w1.heap[w.heap.size + 1]? ∧ w1.heap.size ≤ w'.heap.size ∧ Q w') :
    Calls Tryz.prog 85 #[.func (.func K) #[] caps] w fun e w' => e = .returned (.tuple #[.nilFunc, .int .i64 c]) ∧ ∃ w2, Q w2 ∧ Exe w2.heap.size w.heap.size w2 w' := by
  have hmf : ∀ (fn : Fn) (first cap : Array Value) (w : World), (Instr.makeFunc fn first cap).run Tryz.prog w = .ok (.func fn first cap) w := fun _ _ _ _ => rfl
  have HH := hidOf h
  have hcall : ∀ w, (callFunc K caps).run Tryz.prog w = .ok (.enter K caps) w := he
  clear h he
  go_enter_defers Tryz.func85, Tryz.ntmps85
  go_wp2_with (go_at_fn K; refine (HH.out _ (((Below.refl _ _).alloc (Nat.le_refl _) _).alloc (by simp) _) (by simp)).mono ?_; rintro e w1 ⟨rfl, hb1, hb2, hz1, hq⟩; obtain ⟨hc1, hc2, hf1, hf2⟩ := two_kept hb1 hb2; have hz : w.heap.size + 1 < w1.heap.size := (by simp at hz1; omega))
  refine leaves_cons (f := 114) (args := #[.pointer (some ⟨w.heap.size, 0, none⟩), .pointer (some ⟨w.heap.size + 1, 0, none⟩)]) (by simp) (by simp [go_sem]) ?_
  refine (frtried1_panic w.heap.size _ 0 c _ (hc1 0) (hc2 0) (hf1 0) (hf2 0) hz).mono ?_
  rintro e u' w2 ⟨rfl, rfl, g1, g2, hb2⟩
  clear HH hcall hmf hc1 hc2 hf1 hf2
  simp [Leaves, settle, results, Tryz.results85, go_sem, g1, g2]
  exact ⟨w1, hq, hb2⟩
def fitFn : AVal → Bool
  | .fn _ [] => true
  | _ => false
def valFn : AVal → Value
  | .fn f _ => .func (.func f) #[] #[]
  | _ => .nilFunc
theorem frtried_tried : Tried2Ok Tryz.prog 85 143 fitFn valFn .nilfn .nilFunc where
  shape := fun h g w u z hu hr => by
    unfold fitFn at hu
    split at hu
    · obtain ⟨arr, rfl, hl⟩ := rep_fn hr
      have : arr = #[] := Array.eq_empty_of_size_eq_zero hl.symm
      subst this
      rfl
    · cases hu
  rep := fun h g w u hu => by
    unfold fitFn at hu
    split at hu
    · exact .fn _ _ _ rfl fun j c x hc => by simp at hc
    · cases hu
  repz := fun h g w => .nilfn
  enter := fun args w => by kernel_rfl
  ok := fun K caps u Q hu he w h => by
    unfold fitFn at hu
    split at hu
    · exact frtried_ok K caps _ Q he w h
    · cases hu
  err := fun K caps c Q he w h => frtried_err K caps c Q he w h
end Go.Proofs.YtopfebbijnhpfaaGreat

namespace Go.Proofs.YtopfebbijnhpfaaGreat
open Go.RowKit
noncomputable def fsD : FuncId → Option Fsp := fun g =>
  if g = 78 then some shareFS else
  if g = 72 then some squareS else
  if g = 88 then some mulS else
  if g = 33 then some addS else
  if g = 69 then some subS else
  fsC g
theorem fsD_ok : FsOk fsD :=
  fs_cons shareFS_ok <|
  fs_cons squareS_ok <|
  fs_cons mulS_ok <|
  fs_cons addS_ok <|
  fs_cons subS_ok <|
  fsC_ok
noncomputable def spB : FuncId → Option (Cv → Cv) := fun g =>
  if g = 79 then some (tried2S fxm fitI (.int .i64 0)) else
  if g = 70 then some (tried2S fxm fitB0 (.bool false)) else
  if g = 51 then some (tried2S fxm fitSp (.agg [.int .i64 0, .int .i64 0])) else
  if g = 85 then some (tried2S fxm fitFn .nilfn) else
  spA g
theorem spB_ok : SpOk spB :=
  sp_cons (fun cv h caps => tried2_at fitried_tried cv h caps) <|
  sp_cons (fun cv h caps => tried2_at fbtried_tried cv h caps) <|
  sp_cons (fun cv h caps => tried2_at fstried_tried cv h caps) <|
  sp_cons (fun cv h caps => tried2_at frtried_tried cv h caps) <|
  spA_ok
end Go.Proofs.YtopfebbijnhpfaaGreat

namespace Go.Proofs.YtopfebbijnhpfaaGreat
open Go.RowKit
/-! Closures that are called in regions that draw their order. -/
noncomputable def unit1S : Fsp := fun _ args k => match args with
  | [.int .i64 x, .int .i64 _, .rp [.int .u64 h, .int .u64 l]] => bif i6 x && shB (ab x) h l then k (i1 (sg (ngB x) (shr (ab x) (vw h l)))) else none
  | _ => none
theorem shr_in {x h l : Int} (hb : shB x h l = true) : 0 ≤ shr x (vw h l) ∧ shr x (vw h l) ≤ 65536 ∧ shrP x (vw h l) (shr x (vw h l)).toNat = true ∧ shrP x (vw h l) ((shr x (vw h l)).toNat + 1) = false := by
  simp only [shB, Bool.and_eq_true, decide_eq_true_eq] at hb
  obtain ⟨⟨⟨⟨x0, x1⟩, hh, hl⟩, hs0, hs⟩, hx⟩ := hb
  have a := bs_spec (shrP x (vw h l)) (fun m n => shr_anti (Int.le_of_lt hs0) m n) 17 0 (shr_zero x0) (shr_top hs0 hx _ (by decide))
  rw [shr_eq]
  refine ⟨by omega, ?_, a.1, a.2.1⟩
  rcases Nat.lt_or_ge (bs (shrP x (vw h l)) 17 0) 65537 with h | h
  · omega
  · have := shr_top hs0 hx _ h; rw [a.1] at this; cases this
theorem unit1_text (N n : Nat) (α : Type) (x y h l : Int) (k : AOut → Option α) : evFn real tab ((twT fsD spB).env real tab N (n + 2)) N Tryz.f77 α [iN x, iN y, .rp [uN h, uN l]] k =
 bif i6 x then bif shB (ab x) h l then bif wB (shr (ab x) (vw h l)) then fitK (decide (x < 0)) (shr (ab x) (vw h l)) k else none else none else none := by kernel_rfl
theorem unit1S_ok : FspOk Tryz.prog 77 unit1S := tower_S fsD_ok spB_ok ⟨Tryz.func77, fun _ _ => by kernel_rfl⟩ (by intro α args k; unfold unit1S; split <;> simp only [cond_bind, Option.bind_some, Option.bind_none]) fun args out hs h => by
  unfold unit1S at h
  split at h
  · rename_i x y h1 l
    refine ⟨8, 2, (unit1_text 8 0 AOut x y h1 l some).trans (Eq.trans ?_ h)⟩
    cases hx : i6 x
    · rw [hx] at h; cases h
    · cases hb : shB (ab x) h1 l
      · rfl
      · have a := shr_in hb
        simp only [wB_iff.2 (show Word (shr (ab x) (vw h1 l)) from ⟨a.1, by omega⟩), fitK, fxB, decide_eq_true (show shr (ab x) (vw h1 l) ≤ 70368744177664 by omega), Bool.and_self, cond_true]
        rfl
  · cases h
def times2S : Fsp := fun _ args k => match args with
  | [.int .i64 x, .int .i64 _, .rp [.int .i64 b], .rp [.fn g []]] =>
    match howOf g with
    | some how => bif okB x && okB b then fitK (xorB (ngB x) (ngB b)) (prP x b how) k else k (mis fxm 2)
    | none => none
  | _ => none
def times2Text {α : Type} (x b how : Int) (k : AOut → Option α) : Option α := bif okB x && okB b then fitK (xorB (ngB x) (ngB b)) (prP x b how) k else k (mis fxm 2)
theorem times20_text (N n : Nat) (α : Type) (x y b : Int) (k : AOut → Option α) : evFn real tab ((twT fsD spB).env real tab N (n + 2)) N Tryz.f87 α [iN x, iN y, .rp [iN b], .rp [.fn 107 []]] k = times2Text x b 0 k := by kernel_rfl
theorem times21_text (N n : Nat) (α : Type) (x y b : Int) (k : AOut → Option α) : evFn real tab ((twT fsD spB).env real tab N (n + 2)) N Tryz.f87 α [iN x, iN y, .rp [iN b], .rp [.fn 108 []]] k = times2Text x b 1 k := by kernel_rfl
theorem times22_text (N n : Nat) (α : Type) (x y b : Int) (k : AOut → Option α) : evFn real tab ((twT fsD spB).env real tab N (n + 2)) N Tryz.f87 α [iN x, iN y, .rp [iN b], .rp [.fn 109 []]] k = times2Text x b 2 k := by kernel_rfl
theorem times23_text (N n : Nat) (α : Type) (x y b : Int) (k : AOut → Option α) : evFn real tab ((twT fsD spB).env real tab N (n + 2)) N Tryz.f87 α [iN x, iN y, .rp [iN b], .rp [.fn 110 []]] k = times2Text x b 3 k := by kernel_rfl
theorem times2S_ok : FspOk Tryz.prog 87 times2S := tower_S fsD_ok spB_ok ⟨Tryz.func87, fun _ _ => by kernel_rfl⟩ (by intro α args k; unfold times2S; split <;> (try split) <;> simp only [cond_bind, fitK_bind, Option.bind_some, Option.bind_none]) fun args out hs h => by
  unfold times2S at h
  split at h
  · rename_i x y b g
    split at h
    · rename_i how hg
      rcases how_cases hg with hf | ⟨rfl, rfl⟩ | ⟨rfl, rfl⟩ | ⟨rfl, rfl⟩ | ⟨rfl, rfl⟩
      · cases hf
      · exact ⟨8, 2, (times20_text 8 0 AOut x y b some).trans h⟩
      · exact ⟨8, 2, (times21_text 8 0 AOut x y b some).trans h⟩
      · exact ⟨8, 2, (times22_text 8 0 AOut x y b some).trans h⟩
      · exact ⟨8, 2, (times23_text 8 0 AOut x y b some).trans h⟩
    · cases h
  · cases h
noncomputable def fsE : FuncId → Option Fsp := fun g =>
  if g = 77 then some unit1S else
  if g = 87 then some times2S else
  fsD g
theorem fsE_ok : FsOk fsE :=
  fs_cons unit1S_ok <|
  fs_cons times2S_ok <|
  fsD_ok
/-! Sums and differences of spots. -/
def two2 (p q : Int) (ok : Bool) : Int × Int × Int := bif ok then (bif fxB (ab p) && fxB (ab q) then (p, q, 0) else (0, 0, 4)) else (0, 0, 2)
def plP (x y u v : Int) : Int × Int × Int := two2 (x + u) (y + v) (four x y u v)
def miP (x y u v : Int) : Int × Int × Int := two2 (x - u) (y - v) (four x y u v)
def plX (x y u v : Int) : Int := (plP x y u v).1
def plY (x y u v : Int) : Int := (plP x y u v).2.1
def plE (x y u v : Int) : Int := (plP x y u v).2.2
def miX (x y u v : Int) : Int := (miP x y u v).1
def miY (x y u v : Int) : Int := (miP x y u v).2.1
def miE (x y u v : Int) : Int := (miP x y u v).2.2
def plusPS : Fsp := fun _ args k => match args with
  | [.agg [.int .i64 x, .int .i64 y], .agg [.int .i64 u, .int .i64 v]] => k (s2 (plX x y u v) (plY x y u v) (plE x y u v))
  | _ => none
def minusPS : Fsp := fun _ args k => match args with
  | [.agg [.int .i64 x, .int .i64 y], .agg [.int .i64 u, .int .i64 v]] => k (s2 (miX x y u v) (miY x y u v) (miE x y u v))
  | _ => none
def twoText {α : Type} (x y u v p q : Int) (k : AOut → Option α) : Option α :=
  bif [x, y, u, v].all okB then
    bif okB x && okB u then
      bif fxB (ab p) then
        bif okB y && okB v then
          bif fxB (ab q) then k (s2 p q 0) else k (s2 0 0 4)
        else k (s2 0 0 2)
      else k (s2 0 0 4)
    else k (s2 0 0 2)
  else k (s2 0 0 2)
theorem two_fin {α : Type} (x y u v p q : Int) (k : AOut → Option α) : twoText x y u v p q k = k (s2 (two2 p q (four x y u v)).1 (two2 p q (four x y u v)).2.1 (two2 p q (four x y u v)).2.2) := by
  unfold twoText two2 four
  rw [all4]
  cases okB x <;> cases okB y <;> cases okB u <;> cases okB v <;> cases fxB (ab p) <;> cases fxB (ab q) <;> rfl
theorem plusP_text (N n : Nat) (α : Type) (x y u v : Int) (k : AOut → Option α) : evFn real tab ((twT fsE spB).env real tab N (n + 6)) N Tryz.f18 α [sN x y, sN u v] k = twoText x y u v (x + u) (y + v) k := by kernel_rfl
theorem plusPS_ok : FspOk Tryz.prog 18 plusPS := tower_S fsE_ok spB_ok ⟨Tryz.func18, fun _ _ => by kernel_rfl⟩ (by intro α args k; unfold plusPS; split <;> rfl) fun args out hs h => by
  unfold plusPS at h
  split at h
  · rename_i x y u v
    exact ⟨8, 6, (plusP_text 8 0 AOut x y u v some).trans ((two_fin ..).trans h)⟩
  · cases h
theorem minusP_text (N n : Nat) (α : Type) (x y u v : Int) (k : AOut → Option α) : evFn real tab ((twT fsE spB).env real tab N (n + 6)) N Tryz.f43 α [sN x y, sN u v] k = twoText x y u v (x - u) (y - v) k := by kernel_rfl
theorem minusPS_ok : FspOk Tryz.prog 43 minusPS := tower_S fsE_ok spB_ok ⟨Tryz.func43, fun _ _ => by kernel_rfl⟩ (by intro α args k; unfold minusPS; split <;> rfl) fun args out hs h => by
  unfold minusPS at h
  split at h
  · rename_i x y u v
    exact ⟨8, 6, (minusP_text 8 0 AOut x y u v some).trans ((two_fin ..).trans h)⟩
  · cases h
/-! Within. -/
def within1S : Fsp := fun _ args k => match args with
  | [.agg [.int .i64 x, .int .i64 y], .int .i64 r] => k (b2 (witV x y r) (witE x y r))
  | _ => none
theorem cmp3_le (a b : Int) : decide (cmp3 a b ≤ 0) = decide (a ≤ b) := by
  rw [decide_eq_decide]; unfold cmp3; repeat' split
  all_goals omega
theorem sq2_in {x y : Int} (hx : okB x = true) (hy : okB y = true) : 0 ≤ sq2 x y ∧ sq2 x y ≤ 9903520314283042199192993792 := by
  have a := ab_mul_in hx hx
  have b := ab_mul_in hy hy
  unfold sq2; omega
theorem ab_sq (x : Int) : ab x * ab x = x * x := by unfold ab; split; exact Int.neg_mul_neg x x; rfl
theorem within_text (N n : Nat) (α : Type) (x y u : Int) (k : AOut → Option α) : evFn real tab ((twT fsE spB).env real tab N (n + 6)) N Tryz.f44 α [sN x y, iN u] k =
 bif okB x && okB y then bif [u].all okB then bif decide (u ≥ 0) then bif i6 u then bif i6 u then bif wB (ab u) && wB (ab u) then bif wB (loW (sq2 x y)) && wB (loW (ab u * ab u))
 then k (b2 (decide (cmp3 (vw (hiW (sq2 x y)) (loW (sq2 x y))) (vw (hiW (ab u * ab u)) (loW (ab u * ab u))) ≤ 0)) 0) else none else none else none else none else k (b2 false 0) else
 k (b2 false 2) else k (b2 false 2) := by kernel_rfl
theorem within1S_ok : FspOk Tryz.prog 44 within1S := tower_S fsE_ok spB_ok ⟨Tryz.func44, fun _ _ => by kernel_rfl⟩ (by intro α args k; unfold within1S; split <;> rfl) fun args out hs h => by
  unfold within1S at h
  split at h
  · rename_i x y u
    refine ⟨8, 6, (within_text 8 0 AOut x y u some).trans (Eq.trans ?_ h)⟩
    unfold witV witE witB
    rw [all1]
    cases hx : okB x
    · rfl
    · cases hy : okB y
      · rfl
      · cases hu : okB u
        · rfl
        · simp only [i6_ok hu, wB_ab (i6_ok hu), lo_wB, vw_hl, cmp3_le, Bool.and_self, cond_true, ab_sq]
          by_cases h0 : 0 ≤ u
          · rw [decide_eq_true h0]; rfl
          · rw [decide_eq_false h0]; rfl
  · cases h
/-! Unit. -/
noncomputable def uniS : Fsp := fun _ args k => match args with
  | [.agg [.int .i64 x, .int .i64 y]] => k (s2 (uniV x y x) (uniV x y y) (uniE x y))
  | _ => none
theorem hl_zero (n : Int) : (!!(hiW n == 0 && (loW n == 0 && true))) = (n == 0) := by
  have e := hiW_loW n
  rw [Bool.not_not, Bool.and_true]
  by_cases h : n = 0
  · subst h; rfl
  · rw [beq_eq_false_iff_ne.2 h]
    by_cases h1 : hiW n = 0
    · rw [beq_iff_eq.2 h1, beq_eq_false_iff_ne.2 (show loW n ≠ 0 by omega)]; rfl
    · rw [beq_eq_false_iff_ne.2 h1]; rfl
theorem shB_of {x y : Int} (hx : okB x = true) (hy : okB y = true) (hz : sq2 x y ≠ 0) : shB (ab x) (hiW (sq2 x y)) (loW (sq2 x y)) = true ∧ shB (ab y) (hiW (sq2 x y)) (loW (sq2 x y)) = true := by
  have a := ab_mul_in hx hx
  have b := ab_mul_in hy hy
  have s := sq2_in hx hy
  have hw := hi_wB (show 0 ≤ sq2 x y ∧ sq2 x y < _ from ⟨s.1, by omega⟩)
  have e1 : ab x * ab x ≤ sq2 x y := by unfold sq2; omega
  have e2 : ab y * ab y ≤ sq2 x y := by unfold sq2; omega
  simp only [shB, hw, lo_wB, vw_hl, decide_eq_true (ab_nn x), decide_eq_true (ab_nn y), decide_eq_true (ok_ab hx), decide_eq_true (ok_ab hy), decide_eq_true (show 0 < sq2 x y by omega), decide_eq_true (show sq2 x y < 19807040628566084398385987584 by omega), decide_eq_true e1, decide_eq_true e2, Bool.and_self]
  trivial
theorem unit_text (N n : Nat) (α : Type) (x y : Int) (k : AOut → Option α) : evFn real tab ((twT fsE spB).env real tab N (n + 6)) N Tryz.f46 α [sN x y] k =
 bif okB x && okB y then bif !!(hiW (sq2 x y) == 0 && (loW (sq2 x y) == 0 && true)) then k (s2 0 0 10) else bif [x, y, x, y].all okB then bif i6 x && shB (ab x) (hiW (sq2 x y)) (loW
 (sq2 x y)) then bif i6 y && shB (ab y) (hiW (sq2 x y)) (loW (sq2 x y)) then k (s2 (sg (ngB x) (shr (ab x) (vw (hiW (sq2 x y)) (loW (sq2 x y))))) (sg (ngB y) (shr (ab y) (vw (hiW
 (sq2 x y)) (loW (sq2 x y))))) 0) else none else none else k (s2 0 0 0) else k (s2 0 0 2) := by kernel_rfl
theorem uniS_ok : FspOk Tryz.prog 46 uniS := tower_S fsE_ok spB_ok ⟨Tryz.func46, fun _ _ => by kernel_rfl⟩ (by intro α args k; unfold uniS; split <;> rfl) fun args out hs h => by
  unfold uniS at h
  split at h
  · rename_i x y
    refine ⟨8, 6, (unit_text 8 0 AOut x y some).trans (Eq.trans ?_ h)⟩
    unfold uniV uniE uniB
    rw [all4, hl_zero]
    cases hx : okB x
    · rfl
    · cases hy : okB y
      · rfl
      · cases hz : sq2 x y == 0
        · obtain ⟨a, b⟩ := shB_of hx hy (beq_eq_false_iff_ne.1 hz)
          simp only [i6_ok hx, i6_ok hy, a, b, vw_hl, Bool.and_self, cond_true, cond_false]
        · rfl
  · cases h
end Go.Proofs.YtopfebbijnhpfaaGreat

namespace Go.Proofs.YtopfebbijnhpfaaGreat
open Go.RowKit
def fitT {α : Type} (neg : Bool) (n : Int) (k : AOut → Option α) : Option α := bif fxB n then k (i2 (sg neg n) 0) else k (i2 0 4)
theorem fitT_eq {α : Type} (neg : Bool) (n : Int) (k : AOut → Option α) : fitT neg n k = k (i2 (fxV neg n) (fxE n)) := by
  unfold fitT fxV fxE; cases fxB n <;> rfl
/-! Times. -/
def tiOk (x y b : Int) : Bool := okB x && okB y && okB b
def tiFit (x y b how : Int) : Bool := fxB (prP x b how) && fxB (prP y b how)
def tiV (x y b how c : Int) : Int := bif tiOk x y b && tiFit x y b how then sg (xorB (ngB c) (ngB b)) (prP c b how) else 0
def tiE (x y b how : Int) : Int := bif tiOk x y b then (bif tiFit x y b how then 0 else 4) else 2
def timesS : Fsp := fun _ args k => match args with
  | [.agg [.int .i64 x, .int .i64 y], .int .i64 b, .int .i64 how] => bif wayB how then k (s2 (tiV x y b how x) (tiV x y b how y) (tiE x y b how)) else none
  | _ => none
def timesText {α : Type} (x y b how : Int) (k : AOut → Option α) : Option α :=
  bif [x, y, b].all okB then
    bif [x, y, x, y].all okB then
      bif okB x && okB b then
        bif fxB (prP x b how) then
          bif okB y && okB b then
            bif fxB (prP y b how) then k (s2 (sg (xorB (ngB x) (ngB b)) (prP x b how)) (sg (xorB (ngB y) (ngB b)) (prP y b how)) 0)
            else k (s2 0 0 4)
          else k (s2 0 0 2)
        else k (s2 0 0 4)
      else k (s2 0 0 2)
    else k (s2 0 0 2)
  else k (s2 0 0 2)
theorem times_fin {α : Type} (x y b how : Int) (k : AOut → Option α) : timesText x y b how k = k (s2 (tiV x y b how x) (tiV x y b how y) (tiE x y b how)) := by
  unfold timesText tiV tiE tiOk tiFit
  rw [all3, all4]
  cases okB x <;> cases okB y <;> cases okB b <;> cases fxB (prP x b how) <;> cases fxB (prP y b how) <;> rfl
theorem times0_text (N n : Nat) (α : Type) (x y b : Int) (k : AOut → Option α) : evFn real tab ((twT fsE spB).env real tab N (n + 6)) N Tryz.f49 α [sN x y, iN b, iN 0] k = timesText x y b 0 k := by kernel_rfl
theorem times1_text (N n : Nat) (α : Type) (x y b : Int) (k : AOut → Option α) : evFn real tab ((twT fsE spB).env real tab N (n + 6)) N Tryz.f49 α [sN x y, iN b, iN 1] k = timesText x y b 1 k := by kernel_rfl
theorem times2_text (N n : Nat) (α : Type) (x y b : Int) (k : AOut → Option α) : evFn real tab ((twT fsE spB).env real tab N (n + 6)) N Tryz.f49 α [sN x y, iN b, iN 2] k = timesText x y b 2 k := by kernel_rfl
theorem times3_text (N n : Nat) (α : Type) (x y b : Int) (k : AOut → Option α) : evFn real tab ((twT fsE spB).env real tab N (n + 6)) N Tryz.f49 α [sN x y, iN b, iN 3] k = timesText x y b 3 k := by kernel_rfl
theorem timesS_ok : FspOk Tryz.prog 49 timesS := tower_S fsE_ok spB_ok ⟨Tryz.func49, fun _ _ => by kernel_rfl⟩ (by intro α args k; unfold timesS; split <;> simp only [cond_bind, Option.bind_some, Option.bind_none]) fun args out hs h => by
  unfold timesS at h
  split at h
  · rename_i x y b how
    cases hw : wayB how
    · rw [hw] at h; cases h
    · rw [hw, cond_true] at h
      rcases way_cases hw with rfl | rfl | rfl | rfl
      · exact ⟨8, 6, (times0_text 8 0 AOut x y b some).trans ((times_fin ..).trans h)⟩
      · exact ⟨8, 6, (times1_text 8 0 AOut x y b some).trans ((times_fin ..).trans h)⟩
      · exact ⟨8, 6, (times2_text 8 0 AOut x y b some).trans ((times_fin ..).trans h)⟩
      · exact ⟨8, 6, (times3_text 8 0 AOut x y b some).trans ((times_fin ..).trans h)⟩
  · cases h
/-! Dot. -/
def dtP (s how : Int) : Int := rndP how (ngB s) (ab s) 65536
def dtV (x y u v how : Int) : Int := bif four x y u v then fxV (ngB (dotS x y u v)) (dtP (dotS x y u v) how) else 0
def dtE (x y u v how : Int) : Int := bif four x y u v then fxE (dtP (dotS x y u v) how) else 2
def dotPS : Fsp := fun _ args k => match args with
  | [.agg [.int .i64 x, .int .i64 y], .agg [.int .i64 u, .int .i64 v], .int .i64 how] => bif wayB how then k (i2 (dtV x y u v how) (dtE x y u v how)) else none
  | _ => none
def dotText {α : Type} (x u v w how : Int) (k : AOut → Option α) : Option α :=
  bif [x, u, v, w].all okB then
    bif i6 x then
      bif i6 v then
        bif wB (ab x) && wB (ab v) then
          bif i6 u then
            bif i6 w then
              bif wB (ab u) && wB (ab w) then
                bif (!(decide (x < 0) == decide (v < 0))) == (!(decide (u < 0) == decide (w < 0))) then
                  bif wB (hiW (ab x * ab v)) && wB (loW (ab x * ab v)) && wB (hiW (ab u * ab w)) && wB (loW (ab u * ab w)) && decide (vw (hiW (ab x * ab v)) (loW (ab x * ab v)) + vw (hiW (ab u * ab w)) (loW (ab u * ab w)) < 340282366920938463463374607431768211456) then
                    bif wB (hiW (vw (hiW (ab x * ab v)) (loW (ab x * ab v)) + vw (hiW (ab u * ab w)) (loW (ab u * ab w)))) && wB (loW (vw (hiW (ab x * ab v)) (loW (ab x * ab v)) + vw (hiW (ab u * ab w)) (loW (ab u * ab w)))) && wB 65536 && decide ((0 : Int) < 65536) then
                      fitT (!(decide (x < 0) == decide (v < 0))) (rndP how (!(decide (x < 0) == decide (v < 0))) (vw (hiW (vw (hiW (ab x * ab v)) (loW (ab x * ab v)) + vw (hiW (ab u * ab w)) (loW (ab u * ab w)))) (loW (vw (hiW (ab x * ab v)) (loW (ab x * ab v)) + vw (hiW (ab u * ab w)) (loW (ab u * ab w))))) 65536) k
                    else none
                  else none
                else
                  bif wB (loW (ab x * ab v)) && wB (loW (ab u * ab w)) then
                    bif decide (cmp3 (vw (hiW (ab x * ab v)) (loW (ab x * ab v))) (vw (hiW (ab u * ab w)) (loW (ab u * ab w))) ≥ 0) then
                      bif wB (hiW (ab x * ab v)) && wB (loW (ab x * ab v)) && wB (hiW (ab u * ab w)) && wB (loW (ab u * ab w)) && decide (vw (hiW (ab u * ab w)) (loW (ab u * ab w)) ≤ vw (hiW (ab x * ab v)) (loW (ab x * ab v))) then
                        bif wB (hiW (vw (hiW (ab x * ab v)) (loW (ab x * ab v)) - vw (hiW (ab u * ab w)) (loW (ab u * ab w)))) && wB (loW (vw (hiW (ab x * ab v)) (loW (ab x * ab v)) - vw (hiW (ab u * ab w)) (loW (ab u * ab w)))) && wB 65536 && decide ((0 : Int) < 65536) then
                          fitT (!(decide (x < 0) == decide (v < 0))) (rndP how (!(decide (x < 0) == decide (v < 0))) (vw (hiW (vw (hiW (ab x * ab v)) (loW (ab x * ab v)) - vw (hiW (ab u * ab w)) (loW (ab u * ab w)))) (loW (vw (hiW (ab x * ab v)) (loW (ab x * ab v)) - vw (hiW (ab u * ab w)) (loW (ab u * ab w))))) 65536) k
                        else none
                      else none
                    else
                      bif wB (hiW (ab u * ab w)) && wB (loW (ab u * ab w)) && wB (hiW (ab x * ab v)) && wB (loW (ab x * ab v)) && decide (vw (hiW (ab x * ab v)) (loW (ab x * ab v)) ≤ vw (hiW (ab u * ab w)) (loW (ab u * ab w))) then
                        bif wB (hiW (vw (hiW (ab u * ab w)) (loW (ab u * ab w)) - vw (hiW (ab x * ab v)) (loW (ab x * ab v)))) && wB (loW (vw (hiW (ab u * ab w)) (loW (ab u * ab w)) - vw (hiW (ab x * ab v)) (loW (ab x * ab v)))) && wB 65536 && decide ((0 : Int) < 65536) then
                          fitT (!(decide (u < 0) == decide (w < 0))) (rndP how (!(decide (u < 0) == decide (w < 0))) (vw (hiW (vw (hiW (ab u * ab w)) (loW (ab u * ab w)) - vw (hiW (ab x * ab v)) (loW (ab x * ab v)))) (loW (vw (hiW (ab u * ab w)) (loW (ab u * ab w)) - vw (hiW (ab x * ab v)) (loW (ab x * ab v))))) 65536) k
                        else none
                      else none
                  else none
              else none
            else none
          else none
        else none
      else none
    else none
  else k (i2 0 2)
theorem mul_sg (a b : Int) : a * b = sg (xorB (ngB a) (ngB b)) (ab a * ab b) := by
  unfold sg xorB ngB ab
  by_cases h1 : a < 0 <;> by_cases h2 : b < 0 <;> simp [h1, h2, Int.neg_mul, Int.mul_neg]
theorem rnd0 (how : Int) (neg : Bool) : rndP how neg 0 65536 = 0 := by
  unfold rndP rnd up1; simp
theorem fit_sign {α : Type} {s N how : Int} {neg : Bool} (hs : s = sg neg N) (hN : 0 ≤ N) (k : AOut → Option α) : fitT neg (rndP how neg N 65536) k = k (i2 (fxV (ngB s) (dtP s how)) (fxE (dtP s how))) := by
  rw [fitT_eq]
  unfold dtP
  rcases Int.lt_or_eq_of_le hN with h | h
  · have e1 : ngB s = neg ∧ ab s = N := by
      subst hs; unfold ngB ab sg
      cases neg
      · simp only [cond_false]; rw [decide_eq_false (by omega), if_neg (by omega)]; exact ⟨rfl, rfl⟩
      · simp only [cond_true]; rw [decide_eq_true (by omega), if_pos (by omega)]; exact ⟨rfl, by omega⟩
    rw [e1.1, e1.2]
  · subst h
    have e : s = 0 := by subst hs; cases neg <;> rfl
    subst e
    rw [show ab 0 = 0 from rfl, rnd0, rnd0]
    cases neg <;> rfl
theorem dot_fin {α : Type} (x u v w how : Int) (k : AOut → Option α) : dotText x u v w how k = k (i2 (dtV x u v w how) (dtE x u v w how)) := by
  unfold dotText dtV dtE four
  rw [all4]
  cases hx : okB x
  · rfl
  · cases hu : okB u
    · rfl
    · cases hv : okB v
      · rfl
      · cases hw : okB w
        · rfl
        · have p := ab_mul_in hx hv
          have q := ab_mul_in hu hw
          have e1 := mul_sg x v
          have e2 := mul_sg u w
          simp only [i6_ok hx, i6_ok hu, i6_ok hv, i6_ok hw, wB_ab (i6_ok hx), wB_ab (i6_ok hu), wB_ab (i6_ok hv), wB_ab (i6_ok hw), lo_wB, vw_hl, hi_wB (show 0 ≤ ab x * ab v ∧ ab x * ab v < _ from ⟨p.1, by omega⟩), hi_wB (show 0 ≤ ab u * ab w ∧ ab u * ab w < _ from ⟨q.1, by omega⟩), Bool.and_self, cond_true, show wB 65536 = true from rfl, show decide ((0 : Int) < 65536) = true from rfl, Bool.true_and]
          have e3 : dotS x u v w = x * v + u * w := rfl
          have g1 : (!(decide (x < 0) == decide (v < 0))) = xorB (ngB x) (ngB v) := rfl
          have g2 : (!(decide (u < 0) == decide (w < 0))) = xorB (ngB u) (ngB w) := rfl
          rw [g1, g2]
          generalize xorB (ngB x) (ngB v) = m at *
          generalize xorB (ngB u) (ngB w) = n at *
          generalize ab x * ab v = P at *
          generalize ab u * ab w = Q at *
          rw [e1, e2] at e3
          generalize dotS x u v w = s at *
          by_cases hmn : m = n
          · subst hmn
            rw [beq_self_eq_true, cond_true, decide_eq_true (show P + Q < 340282366920938463463374607431768211456 by omega), hi_wB (show 0 ≤ P + Q ∧ P + Q < _ from ⟨by omega, by omega⟩)]
            simp only [Bool.and_self, cond_true]
            exact fit_sign (by rw [e3]; cases m <;> simp [sg]; omega) (by omega) k
          · rw [beq_eq_false_iff_ne.2 hmn, cond_false]
            have hn : n = !m := by cases m <;> cases n <;> simp at hmn ⊢
            subst hn
            by_cases hc : Q ≤ P
            · rw [decide_eq_true (show cmp3 P Q ≥ 0 by unfold cmp3; repeat' split
                                                       all_goals omega), decide_eq_true hc, hi_wB (show 0 ≤ P - Q ∧ P - Q < _ from ⟨by omega, by omega⟩)]
              simp only [Bool.and_self, cond_true]
              exact fit_sign (by rw [e3]; cases m <;> simp [sg] <;> omega) (by omega) k
            · rw [decide_eq_false (show ¬ cmp3 P Q ≥ 0 by unfold cmp3; repeat' split
                                                          all_goals omega), decide_eq_true (show P ≤ Q by omega), hi_wB (show 0 ≤ Q - P ∧ Q - P < _ from ⟨by omega, by omega⟩)]
              simp only [Bool.and_self, cond_true, cond_false]
              exact fit_sign (by rw [e3]; cases m <;> simp [sg] <;> omega) (by omega) k
theorem dot0_text (N n : Nat) (α : Type) (x u v w : Int) (k : AOut → Option α) : evFn real tab ((twT fsE spB).env real tab N (n + 6)) N Tryz.f48 α [sN x u, sN v w, iN 0] k = dotText x u v w 0 k := by kernel_rfl
theorem dot1_text (N n : Nat) (α : Type) (x u v w : Int) (k : AOut → Option α) : evFn real tab ((twT fsE spB).env real tab N (n + 6)) N Tryz.f48 α [sN x u, sN v w, iN 1] k = dotText x u v w 1 k := by kernel_rfl
theorem dot2_text (N n : Nat) (α : Type) (x u v w : Int) (k : AOut → Option α) : evFn real tab ((twT fsE spB).env real tab N (n + 6)) N Tryz.f48 α [sN x u, sN v w, iN 2] k = dotText x u v w 2 k := by kernel_rfl
theorem dot3_text (N n : Nat) (α : Type) (x u v w : Int) (k : AOut → Option α) : evFn real tab ((twT fsE spB).env real tab N (n + 6)) N Tryz.f48 α [sN x u, sN v w, iN 3] k = dotText x u v w 3 k := by kernel_rfl
theorem dotPS_ok : FspOk Tryz.prog 48 dotPS := tower_S fsE_ok spB_ok ⟨Tryz.func48, fun _ _ => by kernel_rfl⟩ (by intro α args k; unfold dotPS; split <;> simp only [cond_bind, Option.bind_some, Option.bind_none]) fun args out hs h => by
  unfold dotPS at h
  split at h
  · rename_i x u v w how
    cases hw : wayB how
    · rw [hw] at h; cases h
    · rw [hw, cond_true] at h
      rcases way_cases hw with rfl | rfl | rfl | rfl
      · exact ⟨8, 6, (dot0_text 8 0 AOut x u v w some).trans ((dot_fin ..).trans h)⟩
      · exact ⟨8, 6, (dot1_text 8 0 AOut x u v w some).trans ((dot_fin ..).trans h)⟩
      · exact ⟨8, 6, (dot2_text 8 0 AOut x u v w some).trans ((dot_fin ..).trans h)⟩
      · exact ⟨8, 6, (dot3_text 8 0 AOut x u v w some).trans ((dot_fin ..).trans h)⟩
  · cases h
/-! Scale. -/
def slP (a n d how : Int) : Int := rndP how (scG a n d) (ab a * ab n) (ab d)
def slOk (a n d : Int) : Bool := okB a && (rateB n && rateB d)
def slV (a n d how : Int) : Int := bif slOk a n d then (bif d == 0 then 0 else fxV (scG a n d) (slP a n d how)) else 0
def slE (a n d how : Int) : Int := bif slOk a n d then (bif d == 0 then 10 else fxE (slP a n d how)) else 2
def scaleS : Fsp := fun _ args k => match args with
  | [.int .i64 a, .int .i64 n, .int .i64 d, .int .i64 how] => bif wayB how then k (i2 (slV a n d how) (slE a n d how)) else none
  | _ => none
def scaleText {α : Type} (x u v how : Int) (k : AOut → Option α) : Option α :=
  bif [x].all okB then
    bif decide (u ≥ -2147483648) then
      bif decide (u ≤ 2147483648) then
        bif decide (v ≥ -2147483648) then
          bif !(decide (v ≤ 2147483648)) then k (i2 0 2)
          else
            bif !(v != 0) then k (i2 0 10)
            else
              bif i6 x then
                bif i6 u then
                  bif wB (ab x) && wB (ab u) then
                    bif i6 v then
                      bif wB (hiW (ab x * ab u)) && wB (loW (ab x * ab u)) && wB (ab v) && decide (0 < ab v) then
                        fitT (!(decide (x < 0) == !(decide (u < 0) == decide (v < 0)))) (rndP how (!(decide (x < 0) == !(decide (u < 0) == decide (v < 0)))) (vw (hiW (ab x * ab u)) (loW (ab x * ab u))) (ab v)) k
                      else none
                    else none
                  else none
                else none
              else none
        else k (i2 0 2)
      else k (i2 0 2)
    else k (i2 0 2)
  else k (i2 0 2)
theorem rate_ok {n : Int} (h : rateB n = true) : okB n = true := by rw [rate_iff] at h; rw [ok_iff]; omega
theorem scale_fin {α : Type} (x u v how : Int) (k : AOut → Option α) : scaleText x u v how k = k (i2 (slV x u v how) (slE x u v how)) := by
  unfold scaleText slV slE slOk
  rw [all1]
  cases hx : okB x
  · rfl
  · have r1 : rateB u = (decide (u ≥ -2147483648) && decide (u ≤ 2147483648)) := rfl
    have r2 : rateB v = (decide (v ≥ -2147483648) && decide (v ≤ 2147483648)) := rfl
    cases hu : rateB u
    · rw [hu] at r1
      cases h1 : decide (u ≥ -2147483648)
      · rfl
      · rw [h1, Bool.true_and] at r1
        rw [← r1]; rfl
    · rw [hu] at r1
      have r1 := Bool.and_eq_true_iff.1 r1.symm
      rw [r1.1, r1.2]
      cases hv : rateB v
      · rw [hv] at r2
        cases h1 : decide (v ≥ -2147483648)
        · rfl
        · rw [h1, Bool.true_and] at r2
          rw [← r2]; rfl
      · rw [hv] at r2
        have r2 := Bool.and_eq_true_iff.1 r2.symm
        rw [r2.1, r2.2]
        by_cases hz : v = 0
        · subst hz; rfl
        · have hu' := rate_ok hu
          have hv' := rate_ok hv
          have p := ab_mul_in hx hu'
          have hav : 0 < ab v := by unfold ab; split <;> omega
          have hb : (v != 0) = true := by simp [hz]
          have hb2 : (v == 0) = false := by simp [hz]
          simp only [hb, hb2, i6_ok hx, i6_ok hu', i6_ok hv', wB_ab (i6_ok hx), wB_ab (i6_ok hu'), wB_ab (i6_ok hv'), lo_wB, vw_hl, hi_wB (show 0 ≤ ab x * ab u ∧ ab x * ab u < _ from ⟨p.1, by omega⟩), decide_eq_true hav, Bool.and_self, cond_true, cond_false, Bool.not_true]
          rw [fitT_eq]
          rfl
theorem scale0_text (N n : Nat) (α : Type) (x u v : Int) (k : AOut → Option α) : evFn real tab ((twT fsE spB).env real tab N (n + 6)) N Tryz.f50 α [iN x, iN u, iN v, iN 0] k = scaleText x u v 0 k := by kernel_rfl
theorem scale1_text (N n : Nat) (α : Type) (x u v : Int) (k : AOut → Option α) : evFn real tab ((twT fsE spB).env real tab N (n + 6)) N Tryz.f50 α [iN x, iN u, iN v, iN 1] k = scaleText x u v 1 k := by kernel_rfl
theorem scale2_text (N n : Nat) (α : Type) (x u v : Int) (k : AOut → Option α) : evFn real tab ((twT fsE spB).env real tab N (n + 6)) N Tryz.f50 α [iN x, iN u, iN v, iN 2] k = scaleText x u v 2 k := by kernel_rfl
theorem scale3_text (N n : Nat) (α : Type) (x u v : Int) (k : AOut → Option α) : evFn real tab ((twT fsE spB).env real tab N (n + 6)) N Tryz.f50 α [iN x, iN u, iN v, iN 3] k = scaleText x u v 3 k := by kernel_rfl
theorem scaleS_ok : FspOk Tryz.prog 50 scaleS := tower_S fsE_ok spB_ok ⟨Tryz.func50, fun _ _ => by kernel_rfl⟩ (by intro α args k; unfold scaleS; split <;> simp only [cond_bind, Option.bind_some, Option.bind_none]) fun args out hs h => by
  unfold scaleS at h
  split at h
  · rename_i x u v how
    cases hw : wayB how
    · rw [hw] at h; cases h
    · rw [hw, cond_true] at h
      rcases way_cases hw with rfl | rfl | rfl | rfl
      · exact ⟨8, 6, (scale0_text 8 0 AOut x u v some).trans ((scale_fin ..).trans h)⟩
      · exact ⟨8, 6, (scale1_text 8 0 AOut x u v some).trans ((scale_fin ..).trans h)⟩
      · exact ⟨8, 6, (scale2_text 8 0 AOut x u v some).trans ((scale_fin ..).trans h)⟩
      · exact ⟨8, 6, (scale3_text 8 0 AOut x u v some).trans ((scale_fin ..).trans h)⟩
  · cases h
end Go.Proofs.YtopfebbijnhpfaaGreat

namespace Go.Proofs.YtopfebbijnhpfaaGreat
open Go.RowKit
noncomputable def fsF : FuncId → Option Fsp := fun g =>
  if g = 18 then some plusPS else
  if g = 43 then some minusPS else
  if g = 44 then some within1S else
  if g = 46 then some uniS else
  if g = 49 then some timesS else
  if g = 48 then some dotPS else
  if g = 50 then some scaleS else
  fsE g
theorem fsF_ok : FsOk fsF :=
  fs_cons plusPS_ok <|
  fs_cons minusPS_ok <|
  fs_cons within1S_ok <|
  fs_cons uniS_ok <|
  fs_cons timesS_ok <|
  fs_cons dotPS_ok <|
  fs_cons scaleS_ok <|
  fsE_ok
noncomputable def spC : FuncId → Option (Cv → Cv) := fun g =>
  if g = 23 then some (triedS 76) else
  spB g
theorem spC_ok : SpOk spC :=
  sp_cons (fun cv h caps => tried_at cotried_tried cv h caps) <|
  spB_ok
end Go.Proofs.YtopfebbijnhpfaaGreat

namespace Go.Proofs.YtopfebbijnhpfaaGreat
open Go.RowKit
def rgB (v m : Int) : Bool := decide (-m ≤ v) && decide (v ≤ m)
def movC (x y sx sy sp : Int) : Bool := rgB x 6553600000 && rgB y 6553600000 && rgB sx 65536000 && rgB sy 65536000 && rgB sp 1000
def movE (x y sx sy sp : Int) : Int := bif movC x y sx sy sp then 0 else 2
def bodB (t n x y sx sy sp : Int) : Bool := (decide (0 ≤ t) && decide (t ≤ 1)) && (decide (0 ≤ n) && decide (n ≤ 7)) && movC x y sx sy sp
abbrev mvN (x y sx sy sp : Int) : AVal := .agg [iN x, iN y, iN sx, iN sy, iN sp]
abbrev bdN (t n x y sx sy sp : Int) (o : Bool) : AVal := .agg [iN t, iN n, iN x, iN y, iN sx, iN sy, iN sp, bN o]
def gchkC : Fsp := fun _ args k => match args with
  | [.agg [.int .i64 x, .int .i64 y, .int .i64 sx, .int .i64 sy, .int .i64 sp]] => k (i1 (movE x y sx sy sp))
  | _ => none
theorem gchkC_text (N n : Nat) (α : Type) (x y sx sy sp : Int) (k : AOut → Option α) : evFn real tab ((twT fsF spC).env real tab N (n + 4)) N Tryz.f42 α [mvN x y sx sy sp] k =
 bif decide (IntKind.i64.wrap (0 - 6553600000) ≤ x) then bif decide (x ≤ 6553600000) then bif decide (IntKind.i64.wrap (0 - 6553600000) ≤ y) then bif !decide (y ≤ 6553600000) then k
 (i1 2) else bif decide (IntKind.i64.wrap (0 - 65536000) ≤ sx) then bif decide (sx ≤ 65536000) then bif decide (IntKind.i64.wrap (0 - 65536000) ≤ sy) then bif !decide (sy ≤ 65536000)
 then k (i1 2) else bif decide (-1000 ≤ sp) then bif !decide (sp ≤ 1000) then k (i1 2) else k (i1 0) else k (i1 2) else k (i1 2) else k (i1 2) else k (i1 2) else k (i1 2) else k (i1
 2) else k (i1 2) := by kernel_rfl
theorem gchkC_ok : FspOk Tryz.prog 42 gchkC := tower_S fsF_ok spC_ok ⟨Tryz.func42, fun _ _ => by kernel_rfl⟩ (by intro α args k; unfold gchkC; split <;> rfl) fun args out hs h => by
  unfold gchkC at h
  split at h
  · rename_i x y sx sy sp
    refine ⟨8, 4, (gchkC_text 8 0 AOut x y sx sy sp some).trans (Eq.trans ?_ h)⟩
    rw [i64w (0 - 6553600000) (by omega), i64w (0 - 65536000) (by omega)]
    unfold movE movC rgB
    simp only [show (0 : Int) - 6553600000 = -6553600000 from rfl, show (0 : Int) - 65536000 = -65536000 from rfl]
    cases decide (-6553600000 ≤ x) <;> cases decide (x ≤ 6553600000) <;> cases decide (-6553600000 ≤ y) <;> cases decide (y ≤ 6553600000) <;> cases decide (-65536000 ≤ sx) <;> cases decide (sx ≤ 65536000) <;> cases decide (-65536000 ≤ sy) <;> cases decide (sy ≤ 65536000) <;> cases decide (-1000 ≤ sp) <;> cases decide (sp ≤ 1000) <;> rfl
  · cases h
noncomputable def fsG : FuncId → Option Fsp := fun g =>
  if g = 42 then some gchkC else
  fsF g
theorem fsG_ok : FsOk fsG :=
  fs_cons gchkC_ok <|
  fsF_ok
def validS : Fsp := fun _ args k => match args with
  | [.agg [.int .i64 t, .int .i64 n, .int .i64 x, .int .i64 y, .int .i64 sx, .int .i64 sy, .int .i64 sp, .bool _]] => k (b1 (bodB t n x y sx sy sp))
  | _ => none
def tchB (x y u v : Int) (o p : Bool) : Bool := !o && (!p && (witV (miX u v x y) (miY u v x y) 19005440 && !(miX u v x y == 0 && miY u v x y == 0)))
def touchS : Fsp := fun _ args k => match args with
  | [.agg [.int .i64 _, .int .i64 _, .int .i64 x, .int .i64 y, .int .i64 _, .int .i64 _, .int .i64 _, .bool o], .agg [.int .i64 _, .int .i64 _, .int .i64 u, .int .i64 v, .int .i64 _, .int .i64 _, .int .i64 _, .bool p]] => k (b1 (tchB x y u v o p))
  | _ => none
def comis (e : Int) : AOut := .pan (.ifc 76 (.agg [.int .i64 e]))
def mustSS : Fsp := fun _ args k => match args with
  | [.agg [.int .i64 x, .int .i64 y], .int .i64 e] => bif e != 0 then k (comis e) else k (.ret (sN x y))
  | _ => none
def mustFS : Fsp := fun _ args k => match args with
  | [.int .i64 x, .int .i64 e] => bif e != 0 then k (comis e) else k (i1 x)
  | _ => none
theorem valid_text (N n : Nat) (α : Type) (t m x y sx sy sp : Int) (o : Bool) (k : AOut → Option α) : evFn real tab ((twT fsG spC).env real tab N (n + 4)) N Tryz.f27 α [bdN t m x y sx sy sp o] k =
 bif decide (0 ≤ t) then bif decide (t ≤ 1) then bif decide (0 ≤ m) then bif decide (m ≤ 7) then k (b1 (movE x y sx sy sp == 0)) else k (b1 false) else k (b1 false) else k (b1 false)
 else k (b1 false) := by kernel_rfl
theorem validS_ok : FspOk Tryz.prog 27 validS := tower_S fsG_ok spC_ok ⟨Tryz.func27, fun _ _ => by kernel_rfl⟩ (by intro α args k; unfold validS; split <;> rfl) fun args out hs h => by
  unfold validS at h
  split at h
  · rename_i t n x y sx sy sp o
    refine ⟨8, 4, (valid_text 8 0 AOut t n x y sx sy sp o some).trans (Eq.trans ?_ h)⟩
    unfold bodB movE
    cases decide (0 ≤ t) <;> cases decide (t ≤ 1) <;> cases decide (0 ≤ n) <;> cases decide (n ≤ 7) <;> cases movC x y sx sy sp <;> rfl
  · cases h
theorem touch_text (N n : Nat) (α : Type) (a1 a2 x y a3 a4 a5 : Int) (o : Bool) (c1 c2 u v c3 c4 c5 : Int) (p : Bool) (k : AOut → Option α) : evFn real tab ((twT fsG spC).env real tab N (n + 4)) N Tryz.f28 α [bdN a1 a2 x y a3 a4 a5 o, bdN c1 c2 u v c3 c4 c5 p] k =
 bif !o then bif !p then bif witV (miX u v x y) (miY u v x y) 19005440 then k (b1 !(miX u v x y == 0 && (miY u v x y == 0 && true))) else k (b1 false) else k (b1 false) else k (b1
 false) := by kernel_rfl
theorem touchS_ok : FspOk Tryz.prog 28 touchS := tower_S fsG_ok spC_ok ⟨Tryz.func28, fun _ _ => by kernel_rfl⟩ (by intro α args k; unfold touchS; split <;> rfl) fun args out hs h => by
  unfold touchS at h
  split at h
  · rename_i a1 a2 x y a3 a4 a5 o c1 c2 u v c3 c4 c5 p
    refine ⟨8, 4, (touch_text 8 0 AOut a1 a2 x y a3 a4 a5 o c1 c2 u v c3 c4 c5 p some).trans (Eq.trans ?_ h)⟩
    unfold tchB
    rw [Bool.and_true]
    cases o <;> cases p <;> cases witV (miX u v x y) (miY u v x y) 19005440 <;> rfl
  · cases h
theorem mustS_text (N n : Nat) (α : Type) (x y e : Int) (k : AOut → Option α) : evFn real tab ((twT fsG spC).env real tab N (n + 4)) N Tryz.f45 α [sN x y, iN e] k = bif e != 0 then k (comis e) else k (.ret (sN x y)) := by kernel_rfl
theorem mustSS_ok : FspOk Tryz.prog 45 mustSS := tower_S fsG_ok spC_ok ⟨Tryz.func45, fun _ _ => by kernel_rfl⟩ (by intro α args k; unfold mustSS; split <;> simp only [cond_bind, Option.bind_some, Option.bind_none]) fun args out hs h => by
  unfold mustSS at h
  split at h
  · exact ⟨8, 4, (mustS_text 8 0 AOut _ _ _ some).trans h⟩
  · cases h
theorem mustF_text (N n : Nat) (α : Type) (x e : Int) (k : AOut → Option α) : evFn real tab ((twT fsG spC).env real tab N (n + 4)) N Tryz.f47 α [iN x, iN e] k = bif e != 0 then k (comis e) else k (i1 x) := by kernel_rfl
theorem mustFS_ok : FspOk Tryz.prog 47 mustFS := tower_S fsG_ok spC_ok ⟨Tryz.func47, fun _ _ => by kernel_rfl⟩ (by intro α args k; unfold mustFS; split <;> simp only [cond_bind, Option.bind_some, Option.bind_none]) fun args out hs h => by
  unfold mustFS at h
  split at h
  · exact ⟨8, 4, (mustF_text 8 0 AOut _ _ some).trans h⟩
  · cases h
noncomputable def fsH : FuncId → Option Fsp := fun g =>
  if g = 27 then some validS else
  if g = 28 then some touchS else
  if g = 45 then some mustSS else
  if g = 47 then some mustFS else
  fsG g
theorem fsH_ok : FsOk fsH :=
  fs_cons validS_ok <|
  fs_cons touchS_ok <|
  fs_cons mustSS_ok <|
  fs_cons mustFS_ok <|
  fsG_ok
end Go.Proofs.YtopfebbijnhpfaaGreat

namespace Go.Proofs.YtopfebbijnhpfaaGreat
open Go.RowKit
theorem walk_of {P : Program} {f : FuncId} {S : Fsp} (h : FspOk P f S) {args : List AVal} {v : AVal} (hS : S AOut args some = some (.ret v)) (hp : args.all AVal.p1 = true) (hv : v.p1 = true) (w : World) :
    Calls P f (args.map AVal.v1).toArray w fun e w' => e = .returned v.v1 ∧ Below w.heap.size w w' := by
  refine (h.calls args _ hS (fun _ => False) w _ (fun _ hb => hb.elim) (by simp) fun j c x hc hx => ?_).mono ?_
  · simp [hc] at hx
    subst hx
    exact rep_v1 (List.all_eq_true.1 hp c (List.mem_of_getElem? hc))
  · rintro e w' ⟨M', _, _, _, hb, x, rfl, hr⟩
    exact ⟨by rw [rep_p1 hr hv], hb⟩
theorem Hid.mk' {p : Prop} (h : p) : Hid p := h
namespace Ck
theorem lt_of_cell {w : World} {b o : Nat} {s : Option Nat} {v : Value} (h : w.cell? ⟨b, o, s⟩ = some v) : b < w.heap.size := by
  rcases Nat.lt_or_ge b w.heap.size with hb | hb
  · exact hb
  · simp [World.cell?, Array.getElem?_eq_none hb] at h
structure Bod where
  team : Int
  n : Int
  ax : Int
  ay : Int
  sx : Int
  sy : Int
  spin : Int
  out : Bool
def Bod.cells (b : Bod) : Array Value := #[.int .i64 b.team, .int .i64 b.n, .int .i64 b.ax, .int .i64 b.ay, .int .i64 b.sx, .int .i64 b.sy, .int .i64 b.spin, .bool b.out]
def Bod.ok (b : Bod) : Bool := bodB b.team b.n b.ax b.ay b.sx b.sy b.spin
def Bod.rests (b : Bod) : Bool := b.sx == 0 && b.sy == 0
def errB (b : Bool) : Int := bif b then 0 else 2
theorem bvalid_c (b : Bod) (w : World) :
    Calls Tryz.prog 27 #[.agg b.cells] w fun e w' => e = .returned (.bool b.ok) ∧ Below w.heap.size w w' :=
  walk_of validS_ok (args := [bdN b.team b.n b.ax b.ay b.sx b.sy b.spin b.out]) rfl rfl rfl w
theorem two_new {w w1 : World} {c1 c2 : Array Value} {t1 t2 : TypeId} (hb : Below ((w.alloc (.cells c1 t1)).alloc (.cells c2 t2)).heap.size ((w.alloc (.cells c1 t1)).alloc (.cells c2 t2)) w1) :
    (∀ i, w1.cell? ⟨w.heap.size, i, none⟩ = c1[i]?) ∧ (∀ i, w1.cell? ⟨w.heap.size + 1, i, none⟩ = c2[i]?) ∧ (∀ i, w1.frozen? ⟨w.heap.size, i, none⟩ = false) ∧ (∀ i, w1.frozen? ⟨w.heap.size + 1, i, none⟩ = false) ∧ w.heap.size + 1 < w1.heap.size := by
  refine ⟨fun i => ?_, fun i => ?_, fun i => ?_, fun i => ?_, ?_⟩
  · rw [hb.cell (p := ⟨w.heap.size, i, none⟩) (by simp; omega)]; simp [go_sem]
  · rw [hb.cell (p := ⟨w.heap.size + 1, i, none⟩) (by simp)]; simp [go_sem]
  · rw [hb.frozen (p := ⟨w.heap.size, i, none⟩) (by simp; omega)]; simp [go_sem]
  · rw [hb.frozen (p := ⟨w.heap.size + 1, i, none⟩) (by simp)]; simp [go_sem]
  · have := hb.size; simp at this; omega
theorem brests_c (b : Bod) (w : World) :
    Calls Tryz.prog 31 #[.agg b.cells] w fun e w' => e = .returned (.bool b.rests) ∧ Below w.heap.size w w' := by
  obtain ⟨team, n, ax, ay, sx, sy, spin, out⟩ := b
  unfold Bod.rests Bod.cells
  simp only
  go_enter Tryz.func31, Tryz.ntmps31
  go_wp2_with fail
  all_goals
    go_ret
    exact ⟨by simp [*], (Below.refl _ _).alloc (Nat.le_refl _) _⟩
abbrev keyV (a b : Int) : Value := .agg #[.int .i64 a, .int .i64 b]
theorem equalIn_int (d : Nat) (a c : Int) (w : World) : (Op.equalIn (d + 1) 3 (.int .i64 a) (.int .i64 c)).run Tryz.prog w = .ok (a == c) w := by
  simp [Op.equalIn, run_underlying Tryz.underlying3]
theorem part_0 (x y : Value) (w : World) : (part 3 #[x, y] 0).run Tryz.prog w = .ok x w := by kernel_rfl
theorem part_1 (x y : Value) (w : World) : (part 3 #[x, y] 1).run Tryz.prog w = .ok y w := by kernel_rfl
theorem size_int (w : World) : (sizeOf 3).run Tryz.prog w = .ok 1 w := by kernel_rfl
theorem equalIn_key (d : Nat) (a b c e : Int) (w : World) : (Op.equalIn (d + 2) 84 (keyV a b) (keyV c e)).run Tryz.prog w = .ok (a == c && b == e) w := by
  have h1 := fun a c => equalIn_int d a c w
  rw [Op.equalIn]
  generalize Op.equalIn (d + 1) = f at *
  simp only [Sem.run_bind, run_underlying Tryz.underlying84, Result.andThen_ok, size_int, Std.Legacy.Range.forIn_eq_forIn_range', List.range', List.forIn_cons, List.forIn_nil]
  have hr : List.range' 0 2 = [0, 1] := rfl
  simp [hr, part_0, part_1, h1, Sem.run_bind]
  by_cases h2 : a = c
  · by_cases h3 : b = e
    · simp [h2, h3, part_0, part_1, h1, Sem.run_bind]
    · simp [h2, h3, part_0, part_1, h1, Sem.run_bind]
  · simp [h2, part_0, part_1, h1, Sem.run_bind]
theorem equal_key (a b c e : Int) (w : World) : (Op.equal 84 (keyV a b) (keyV c e)).run Tryz.prog w = .ok (a == c && b == e) w := by
  simp only [Op.equal, Op.maxDepth]
  exact equalIn_key 9998 a b c e w
theorem check_key (e : Bool) (a b : Int) (w : World) : (Instr.checkKey e 10000 84 (keyV a b)).run Tryz.prog w = .ok () w := by
  cases e <;> kernel_rfl
def NamesMap (w : World) (B : Nat) (ks : List (Int × Int)) : Prop :=
  ∃ es clock, w.heap[B]? = some (.map es clock) ∧ es.toList.map (·.key) = ks.map (fun k => keyV k.1 k.2) ∧ ∀ e ∈ es.toList, e.val = .bool true
theorem findAsking_names (a b : Int) (w : World) : ∀ (es : List MapEntry) (ks : List (Int × Int)) (i : Nat), es.map (·.key) = ks.map (fun k => keyV k.1 k.2) → (∀ e ∈ es, e.val = .bool true) →
    ((a, b) ∉ ks → (Instr.findAsking 84 (keyV a b) es i).run Tryz.prog w = .ok none w) ∧
    ((a, b) ∈ ks → ∃ j, (Instr.findAsking 84 (keyV a b) es i).run Tryz.prog w = .ok (some (j, .bool true)) w)
  | [], [], i, _, _ => by simp [Instr.findAsking]
  | [], _ :: _, _, h, _ => by simp at h
  | _ :: _, [], _, h, _ => by simp at h
  | e :: es, (c, d) :: ks, i, h, hv => by
    simp only [List.map_cons, List.cons.injEq] at h
    obtain ⟨hk, hr⟩ := h
    obtain ⟨h1, h2⟩ := findAsking_names a b w es ks (i + 1) hr (fun x hx => hv x (List.mem_cons_of_mem _ hx))
    have hval := hv e (List.mem_cons_self ..)
    have heq := equal_key a b c d w
    rw [← hk] at heq
    constructor
    · intro hn
      simp only [List.mem_cons, not_or] at hn
      have hne : (a == c && b == d) = false := by
        have := hn.1
        simp only [Prod.mk.injEq, not_and] at this
        by_cases hac : a = c
        · simp [hac, this hac]
        · simp [hac]
      rw [hne] at heq
      simp [Instr.findAsking, Sem.run_bind, heq, h1 hn.2]
    · intro hm
      by_cases hc : a = c ∧ b = d
      · obtain ⟨rfl, rfl⟩ := hc
        have : (a == a && b == b) = true := by simp
        rw [this] at heq
        exact ⟨i, by simp [Instr.findAsking, Sem.run_bind, heq, hval]⟩
      · have hne : (a == c && b == d) = false := by
          by_cases hac : a = c
          · have : ¬ b = d := fun h => hc ⟨hac, h⟩
            simp [this]
          · simp [hac]
        rw [hne] at heq
        have hm' : (a, b) ∈ ks := by
          rcases List.mem_cons.1 hm with h | h
          · simp only [Prod.mk.injEq] at h; exact absurd h hc
          · exact h
        obtain ⟨j, hj⟩ := h2 hm'
        exact ⟨j, by simp [Instr.findAsking, Sem.run_bind, heq, hj]⟩
theorem findKey_names (a b : Int) (w : World) (es : List MapEntry) (ks : List (Int × Int)) (h : es.map (·.key) = ks.map (fun k => keyV k.1 k.2)) (hv : ∀ e ∈ es, e.val = .bool true) :
    ((a, b) ∉ ks → (Instr.findKey 84 (keyV a b) es).run Tryz.prog w = .ok none w) ∧
    ((a, b) ∈ ks → ∃ j, (Instr.findKey 84 (keyV a b) es).run Tryz.prog w = .ok (some (j, .bool true)) w) := by
  obtain ⟨h1, h2⟩ := findAsking_names a b w es ks 0 h hv
  unfold Instr.findKey
  simp only [Sem.run_bind, run_underlying Tryz.underlying84, Result.andThen_ok]
  cases es with
  | nil =>
    cases ks with
    | nil => simp [Instr.findNow]
    | cons _ _ => simp at h
  | cons e es =>
    have hn : ∀ d, Instr.findNow (.array 2 d) (keyV a b) (e :: es) 0 = none := by
      intro d
      simp [Instr.findNow, Instr.sameNow]
    simp only [hn]
    exact ⟨h1, h2⟩
theorem zero_bool (w : World) : (zeroValue 4).run Tryz.prog w = .ok (.bool false) w := by kernel_rfl
theorem names_lookup {w : World} {B : Nat} {ks : List (Int × Int)} (h : NamesMap w B ks) (a b : Int) :
    (Instr.lookup 83 (.map (some B)) (keyV a b) false).run Tryz.prog w = .ok (.bool (decide ((a, b) ∈ ks))) w := by
  obtain ⟨es, clock, hb, hk, hv⟩ := h
  obtain ⟨h1, h2⟩ := findKey_names a b w es.toList ks hk hv
  unfold Instr.lookup
  simp only [Sem.run_bind, run_underlying Tryz.underlying83, Result.andThen_ok, MapKept.run_getObj_map hb, Sem.run_pure, check_key]
  by_cases hm : (a, b) ∈ ks
  · obtain ⟨j, hj⟩ := h2 hm
    simp [hj, hm]
  · simp [h1 hm, hm, zero_bool]
theorem names_update {w : World} {B : Nat} {ks : List (Int × Int)} (h : NamesMap w B ks) (a b : Int) (hn : (a, b) ∉ ks) :
    ∃ w', (Instr.mapUpdate 83 (.map (some B)) (keyV a b) (.bool true)).run Tryz.prog w = .ok () w' ∧ NamesMap w' B (ks ++ [(a, b)]) ∧ w.grownBy w' (some B) := by
  obtain ⟨es, clock, hb, hk, hv⟩ := h
  obtain ⟨h1, -⟩ := findKey_names a b w es.toList ks hk hv
  refine ⟨ChangeMaps.setBlock w B (.map (es.push { key := keyV a b, val := .bool true, born := clock }) (clock + 1)), ?_, ⟨_, _, ChangeMaps.heap_setBlock_same hb _, ?_, ?_⟩, ⟨rfl, rfl, rfl, by simp [ChangeMaps.setBlock], fun i _ hi => ChangeMaps.heap_setBlock_other hb _ (fun e => hi (by rw [e]))⟩⟩
  · unfold Instr.mapUpdate
    simp [Sem.run_bind, run_underlying Tryz.underlying83, MapKept.run_getObj_map hb, check_key, h1 hn, MapKept.run_setObj_map _ hb, Result.andThen, ChangeMaps.setBlock]
  · simp [hk]
  · intro e he
    simp only [Array.toList_push, List.mem_append, List.mem_singleton] at he
    rcases he with he | rfl
    · exact hv e he
    · rfl
theorem wpList_names {P : Program} (hP : P = Tryz.prog) (w : World) {ops : Array Oper} {rest : List Oper} {o : Oper} {a : Act} {Q : Exit → Act → World → Prop}
    (hg : o.guard = none) (m x v : Operand) (hop : o.op = Op.mapUpdate 83 m x v) (B : Nat) (ks : List (Int × Int)) (c d : Int)
    (hm : a.eval m = .map (some B)) (hx : a.eval x = keyV c d) (hv : a.eval v = .bool true) (hown : NamesMap w B ks) (hn : (c, d) ∉ ks)
    (hK : ∀ w', NamesMap w' B (ks ++ [(c, d)]) → w.grownBy w' (some B) → wpList P ops Q rest (a.put o.dst undef) w') :
    wpList P ops Q (o :: rest) a w := by
  subst hP
  refine wpList_plain hg fun K' hK' => ?_
  obtain ⟨w', hrun, r1, r2⟩ := names_update hown c d hn
  unfold Oper.wp
  simp [execOp, hop, hm, hx, hv, hrun, Result.andThen]
  exact hK' _ _ (hK w' r1 r2)
theorem NamesMap.kept {w w' : World} {B : Nat} {ks : List (Int × Int)} (h : NamesMap w B ks) (hb : w'.heap[B]? = w.heap[B]?) : NamesMap w' B ks := by
  obtain ⟨es, clock, h1, h2⟩ := h
  exact ⟨es, clock, hb.trans h1, h2⟩
theorem NamesMap.lt {w : World} {B : Nat} {ks : List (Int × Int)} (h : NamesMap w B ks) : B < w.heap.size := by
  obtain ⟨es, clock, h1, _⟩ := h
  exact (Array.getElem?_eq_some_iff.1 h1).1
theorem NamesMap.below {w w' : World} {B C : Nat} {ks : List (Int × Int)} (h : NamesMap w B ks) (hb : Below C w w') (hc : B < C) : NamesMap w' B ks := h.kept (hb.block B hc)
theorem names_made (w : World) : NamesMap (w.alloc (.map #[] 0)) w.heap.size [] :=
  ⟨#[], 0, by show (w.heap.push _)[w.heap.size]? = _; simp, rfl, by simp⟩
def Bods (w : World) (v : Value) (bs : List Bod) : Prop :=
  (∃ p cap, v = .slice p 0 cap ∧ bs = []) ∨
  (∃ b off cap, v = .slice (some ⟨b, off, none⟩) bs.length cap ∧ 0 < bs.length ∧ bs.length ≤ 9223372036854775807 ∧ ∀ (i : Nat) (x : Bod), bs[i]? = some x → ∀ j, j < 8 → w.cell? ⟨b, off + i * 8 + j, none⟩ = x.cells[j]?)
theorem Bods.below {w w' : World} {v : Value} {bs : List Bod} {B : Nat} (h : Bods w v bs) (hb : Below B w w') (hB : w.heap.size ≤ B) : Bods w' v bs := by
  rcases h with h | ⟨b, off, cap, rfl, h0, h1, h2⟩
  · exact .inl h
  · refine .inr ⟨b, off, cap, rfl, h0, h1, fun i x hx j hj => ?_⟩
    have hc := h2 i x hx j hj
    have hlt : b < w.heap.size := by
      have : ∃ y, x.cells[j]? = some y := ⟨x.cells[j]'(by simpa [Bod.cells] using hj), by simp⟩
      obtain ⟨y, hy⟩ := this
      exact lt_of_cell (hc.trans hy)
    rw [hb.cell (p := ⟨b, off + i * 8 + j, none⟩) (by show b < B; omega)]
    exact hc
def Bod.name (b : Bod) : Int × Int := (b.team, b.n)
def Bod.bad (before : List Bod) (b : Bod) : Bool := !b.ok || (decide (b.name ∈ before.map Bod.name) || (b.out && (!b.rests || b.spin != 0)))
def bodsOk (before : List Bod) : List Bod → Bool
  | [] => true
  | b :: r => !b.bad before && bodsOk (before ++ [b]) r
def sceneB (bs : List Bod) : Bool := decide (bs.length ≤ 16) && bodsOk [] bs
theorem bad_1 {l : List Bod} {x : Bod} (h : x.ok = false) : x.bad l = true := by simp [Bod.bad, h]
theorem bad_2 {l : List Bod} {x : Bod} (h : decide (x.name ∈ l.map Bod.name) = true) : x.bad l = true := by unfold Bod.bad; rw [h]; simp
theorem bad_3 {l : List Bod} {x : Bod} (h1 : x.out = true) (h : x.rests = false) : x.bad l = true := by simp [Bod.bad, h1, h]
theorem bad_4 {l : List Bod} {x : Bod} (h1 : x.out = true) (h : (x.spin != 0) = true) : x.bad l = true := by unfold Bod.bad; rw [h1, h]; simp
theorem good_1 {l : List Bod} {x : Bod} (h1 : x.ok = true) (h2 : decide (x.name ∈ l.map Bod.name) = false) (h3 : x.out = false) : x.bad l = false := by unfold Bod.bad; rw [h1, h2, h3]; rfl
theorem good_2 {l : List Bod} {x : Bod} (h1 : x.ok = true) (h2 : decide (x.name ∈ l.map Bod.name) = false) (h3 : x.rests = true) (h4 : x.spin = 0) : x.bad l = false := by unfold Bod.bad; rw [h1, h2, h3, h4]; simp
set_option maxHeartbeats 2000000 in
theorem ccheck_c (bs : List Bod) (v : Value) (w : World) (hv : Bods w v bs) :
    Calls Tryz.prog 17 #[v] w fun e w' => e = .returned (.int .i64 (errB (sceneB bs))) ∧ Below w.heap.size w w' := by
  have hmm := @run_makeMap Tryz.prog
  by_cases hl : bs.length ≤ 16
  case neg =>
    have hS : sceneB bs = false := by simp [sceneB, hl]
    rw [hS]
    rcases hv with ⟨_, _, _, rfl⟩ | ⟨b, off, cap, rfl, h0, h1, h2⟩
    · simp at hl
    · have hd : decide ((16 : Int) < (bs.length : Int)) = true := by simp only [decide_eq_true_eq]; omega
      clear h2 hS
      go_enter Tryz.func17, Tryz.ntmps17
      go_wp2_with fail
      go_ret
      exact ⟨rfl, Below.refl _ _⟩
  have hS : sceneB bs = bodsOk [] bs := by simp [sceneB, hl]
  have HS := Hid.mk' hS
  clear hS
  have hd : decide ((16 : Int) < (bs.length : Int)) = false := by simp only [decide_eq_false_iff_not]; omega
  rcases hv with ⟨q, cap, rfl, rfl⟩ | ⟨b, off, cap, rfl, h0, h1, h2⟩
  · go_enter Tryz.func17, Tryz.ntmps17
    go_wp2_with fail
    go_loop [5, 6, 13] (fun _ _ i => i = .int .i64 0) (fun _ _ _ => 0)
    case atStart => rfl
    case round =>
      subst hrel
      go_wp2_with fail
      go_ret
      exact ⟨by rw [HS.out]; rfl, (Below.refl _ _).alloc (Nat.le_refl _) _⟩
  have hblt : b < w.heap.size := by
    obtain ⟨x, hx⟩ : ∃ x, bs[0]? = some x := ⟨_, List.getElem?_eq_getElem h0⟩
    exact lt_of_cell (h2 0 x hx 0 (by omega))
  have H2 := Hid.mk' h2
  clear h2
  generalize hn : bs.length = n at *
  have HN := Hid.mk' hn
  clear hn
  go_enter Tryz.func17, Tryz.ntmps17
  go_wp2_with fail
  go_loopw [5, 6, 13] (fun _ _ i wr => ∃ k : Nat, k ≤ n ∧ i = .int .i64 k ∧ NamesMap wr w.heap.size ((bs.take k).map Bod.name) ∧ Below w.heap.size w wr ∧ Hid (bodsOk [] bs = bodsOk (bs.take k) (bs.drop k))) (fun _ _ i _ => n - (intOf i).toNat)
  case atStart => exact ⟨0, Nat.zero_le _, rfl, names_made w, (Below.refl _ _).alloc (Nat.le_refl _) _, rfl⟩
  case round =>
    obtain ⟨k, hk, rfl, hmap, hbel, hok⟩ := hrel
    by_cases hlt : k < n
    case neg =>
      have hkn : k = n := by omega
      have hfin : bodsOk [] bs = true := by rw [hok.out, hkn, ← HN.out, List.drop_length]; rfl
      have HF := Hid.mk' hfin
      clear hfin hkn hok
      go_wp2_with fail
      go_ret
      exact ⟨by rw [HS.out, HF.out]; rfl, hbel⟩
    obtain ⟨x, hx⟩ : ∃ x, bs[k]? = some x := ⟨_, List.getElem?_eq_getElem (by rw [HN.out]; exact hlt)⟩
    have hdrop : bs.drop k = x :: bs.drop (k + 1) := by
      rw [List.drop_eq_getElem_cons (by rw [HN.out]; exact hlt)]
      rw [List.getElem?_eq_getElem (by rw [HN.out]; exact hlt), Option.some.injEq] at hx
      rw [hx]
    have htake : bs.take (k + 1) = bs.take k ++ [x] := by
      rw [List.take_add_one, hx]; rfl
    have hstep : bodsOk [] bs = (!x.bad (bs.take k) && bodsOk (bs.take (k + 1)) (bs.drop (k + 1))) := by
      rw [hok.out, hdrop, htake]; rfl
    have HST := Hid.mk' hstep
    have HTK := Hid.mk' htake
    have hc := fun j (hj : j < 8) => (hbel.cell (p := ⟨b, off + k * 8 + j, none⟩) hblt).trans (H2.out k x hx j hj)
    clear hstep htake hdrop hok hx
    obtain ⟨team, num, ax, ay, sx, sy, spin, out⟩ := x
    have c0 := hc 0 (by omega)
    have c1 := hc 1 (by omega)
    have c2 := hc 2 (by omega)
    have c3 := hc 3 (by omega)
    have c4 := hc 4 (by omega)
    have c5 := hc 5 (by omega)
    have c6 := hc 6 (by omega)
    have c7 := hc 7 (by omega)
    simp only [Bod.cells, List.getElem?_toArray, List.getElem?_cons_zero, List.getElem?_cons_succ, Nat.add_zero] at c0 c1 c2 c3 c4 c5 c6 c7
    clear hc
    cases e1 : Bod.ok ⟨team, num, ax, ay, sx, sy, spin, out⟩
    case false =>
      have HOK := Hid.mk' e1
      have HMEM : Hid (decide ((team, num) ∈ (bs.take k).map Bod.name) = decide ((team, num) ∈ (bs.take k).map Bod.name)) := rfl
      have HBF : Hid (bodsOk [] bs = false) := by show _ = _; rw [HST.out, bad_1 HOK.out]; rfl
      clear e1
      go_wp2_with (go_at_call 27; refine (bvalid_c ⟨team, num, ax, ay, sx, sy, spin, out⟩ _).mono ?_; rintro e w1 ⟨rfl, hb1⟩; rw [HOK.out]; obtain ⟨hc1, hc2, hf1, hf2, hz⟩ := two_new hb1; have d0 := hc2 0; have d1 := hc2 1; have d2 := hc2 2; have d3 := hc2 3; have d4 := hc2 4; have d5 := hc2 5; have d6 := hc2 6; have d7 := hc2 7; have hbw : Below wr.heap.size wr w1 := (((Below.refl _ _).alloc (Nat.le_refl _) _).alloc (by simp) _).trans (hb1.mono (by simp <;> omega)); have hm1 := hmap.below hbw hmap.lt; have hlk := names_lookup hm1 team num; rw [HMEM.out] at hlk; clear hc1 hc2 hf1 hf2)
      go_ret
      exact ⟨by rw [HS.out, HBF.out]; rfl, hbel.trans (hbw.mono hbel.size)⟩
    have HOK := Hid.mk' e1
    clear e1
    cases e2 : decide ((team, num) ∈ (bs.take k).map Bod.name)
    case true =>
      have HMEM := Hid.mk' e2
      have HBF : Hid (bodsOk [] bs = false) := by show _ = _; rw [HST.out, bad_2 HMEM.out]; rfl
      clear e2
      go_wp2_with (go_at_call 27; refine (bvalid_c ⟨team, num, ax, ay, sx, sy, spin, out⟩ _).mono ?_; rintro e w1 ⟨rfl, hb1⟩; rw [HOK.out]; obtain ⟨hc1, hc2, hf1, hf2, hz⟩ := two_new hb1; have d0 := hc2 0; have d1 := hc2 1; have d2 := hc2 2; have d3 := hc2 3; have d4 := hc2 4; have d5 := hc2 5; have d6 := hc2 6; have d7 := hc2 7; have hbw : Below wr.heap.size wr w1 := (((Below.refl _ _).alloc (Nat.le_refl _) _).alloc (by simp) _).trans (hb1.mono (by simp <;> omega)); have hm1 := hmap.below hbw hmap.lt; have hlk := names_lookup hm1 team num; rw [HMEM.out] at hlk; clear hc1 hc2 hf1 hf2)
      go_ret
      exact ⟨by rw [HS.out, HBF.out]; rfl, hbel.trans (hbw.mono hbel.size)⟩
    have HMEM := Hid.mk' e2
    clear e2
    cases out
    case false =>
      have HBG : Hid (bodsOk [] bs = bodsOk (bs.take (k + 1)) (bs.drop (k + 1))) := by show _ = _; rw [HST.out, good_1 HOK.out HMEM.out rfl]; rfl
      have HNM : Hid ((team, num) ∉ (bs.take k).map Bod.name) := of_decide_eq_false HMEM.out
      have HKS : Hid ((bs.take (k + 1)).map Bod.name = (bs.take k).map Bod.name ++ [(team, num)]) := by
        show _ = _
        rw [HTK.out, List.map_append]; rfl
      go_wp2_with (first
        | (go_at_call 27; refine (bvalid_c ⟨team, num, ax, ay, sx, sy, spin, false⟩ _).mono ?_; rintro e w1 ⟨rfl, hb1⟩; rw [HOK.out]; obtain ⟨hc1, hc2, hf1, hf2, hz⟩ := two_new hb1; have d0 := hc2 0; have d1 := hc2 1; have d2 := hc2 2; have d3 := hc2 3; have d4 := hc2 4; have d5 := hc2 5; have d6 := hc2 6; have d7 := hc2 7; have hbw : Below wr.heap.size wr w1 := (((Below.refl _ _).alloc (Nat.le_refl _) _).alloc (by simp) _).trans (hb1.mono (by simp <;> omega)); have hm1 := hmap.below hbw hmap.lt; have hlk := names_lookup hm1 team num; rw [HMEM.out] at hlk; clear hc1 hc2 hf1 hf2)
        | (at_mapUpdate; refine wpList_names rfl _ rfl _ _ _ rfl w.heap.size ((bs.take k).map Bod.name) team num rfl rfl rfl hm1 HNM.out ?_; intro w3 hm3 hg3))
      go_roundw
      case rel => exact ⟨k + 1, by omega, by go_num, by rw [HKS.out]; exact hm3, (hbel.trans (hbw.mono hbel.size)).grown hg3 (by have := hbw.size; have := hbel.size; omega) (fun q hq => by cases hq; exact Nat.le_refl _), HBG.out⟩
      case measure => simp [intOf]; omega
    cases e3 : Bod.rests ⟨team, num, ax, ay, sx, sy, spin, true⟩
    case false =>
      have HR := Hid.mk' e3
      have HBF : Hid (bodsOk [] bs = false) := by show _ = _; rw [HST.out, bad_3 rfl HR.out]; rfl
      clear e3
      go_wp2_with (first
        | (go_at_call 27; refine (bvalid_c ⟨team, num, ax, ay, sx, sy, spin, true⟩ _).mono ?_; rintro e w1 ⟨rfl, hb1⟩; rw [HOK.out]; obtain ⟨hc1, hc2, hf1, hf2, hz⟩ := two_new hb1; have d0 := hc2 0; have d1 := hc2 1; have d2 := hc2 2; have d3 := hc2 3; have d4 := hc2 4; have d5 := hc2 5; have d6 := hc2 6; have d7 := hc2 7; have hbw : Below wr.heap.size wr w1 := (((Below.refl _ _).alloc (Nat.le_refl _) _).alloc (by simp) _).trans (hb1.mono (by simp <;> omega)); have hm1 := hmap.below hbw hmap.lt; have hlk := names_lookup hm1 team num; rw [HMEM.out] at hlk; clear hc1 hc2 hf1 hf2)
        | (go_at_call 31; refine (brests_c ⟨team, num, ax, ay, sx, sy, spin, true⟩ _).mono ?_; rintro e w2 ⟨rfl, hb2⟩; rw [HR.out]; have f0 := (hb2.cell (p := ⟨wr.heap.size + 1, 0, none⟩) hz).trans d0; have f1 := (hb2.cell (p := ⟨wr.heap.size + 1, 1, none⟩) hz).trans d1; have f6 := (hb2.cell (p := ⟨wr.heap.size + 1, 6, none⟩) hz).trans d6; have hm2 := hm1.below hb2 hm1.lt; clear d0 d1 d2 d3 d4 d5 d6 d7 hlk))
      go_ret
      exact ⟨by rw [HS.out, HBF.out]; rfl, (hbel.trans (hbw.mono hbel.size)).trans (hb2.mono (by have := hbw.size; have := hbel.size; omega))⟩
    have HR := Hid.mk' e3
    clear e3
    by_cases hs : spin = 0
    case neg =>
      have hsb : (spin != 0) = true := by simpa using hs
      have HSB := Hid.mk' hsb
      have HBF : Hid (bodsOk [] bs = false) := by show _ = _; rw [HST.out, bad_4 rfl HSB.out]; rfl
      clear hs
      go_wp2_with (first
        | (go_at_call 27; refine (bvalid_c ⟨team, num, ax, ay, sx, sy, spin, true⟩ _).mono ?_; rintro e w1 ⟨rfl, hb1⟩; rw [HOK.out]; obtain ⟨hc1, hc2, hf1, hf2, hz⟩ := two_new hb1; have d0 := hc2 0; have d1 := hc2 1; have d2 := hc2 2; have d3 := hc2 3; have d4 := hc2 4; have d5 := hc2 5; have d6 := hc2 6; have d7 := hc2 7; have hbw : Below wr.heap.size wr w1 := (((Below.refl _ _).alloc (Nat.le_refl _) _).alloc (by simp) _).trans (hb1.mono (by simp <;> omega)); have hm1 := hmap.below hbw hmap.lt; have hlk := names_lookup hm1 team num; rw [HMEM.out] at hlk; clear hc1 hc2 hf1 hf2)
        | (go_at_call 31; refine (brests_c ⟨team, num, ax, ay, sx, sy, spin, true⟩ _).mono ?_; rintro e w2 ⟨rfl, hb2⟩; rw [HR.out]; have f0 := (hb2.cell (p := ⟨wr.heap.size + 1, 0, none⟩) hz).trans d0; have f1 := (hb2.cell (p := ⟨wr.heap.size + 1, 1, none⟩) hz).trans d1; have f6 := (hb2.cell (p := ⟨wr.heap.size + 1, 6, none⟩) hz).trans d6; have hm2 := hm1.below hb2 hm1.lt; clear d0 d1 d2 d3 d4 d5 d6 d7 hlk))
      go_ret
      exact ⟨by rw [HS.out, HBF.out]; rfl, (hbel.trans (hbw.mono hbel.size)).trans (hb2.mono (by have := hbw.size; have := hbel.size; omega))⟩
    subst hs
    have HBG : Hid (bodsOk [] bs = bodsOk (bs.take (k + 1)) (bs.drop (k + 1))) := by show _ = _; rw [HST.out, good_2 HOK.out HMEM.out HR.out rfl]; rfl
    have HNM : Hid ((team, num) ∉ (bs.take k).map Bod.name) := of_decide_eq_false HMEM.out
    have HKS : Hid ((bs.take (k + 1)).map Bod.name = (bs.take k).map Bod.name ++ [(team, num)]) := by
      show _ = _
      rw [HTK.out, List.map_append]; rfl
    go_wp2_with (first
      | (go_at_call 27; refine (bvalid_c ⟨team, num, ax, ay, sx, sy, 0, true⟩ _).mono ?_; rintro e w1 ⟨rfl, hb1⟩; rw [HOK.out]; obtain ⟨hc1, hc2, hf1, hf2, hz⟩ := two_new hb1; have d0 := hc2 0; have d1 := hc2 1; have d2 := hc2 2; have d3 := hc2 3; have d4 := hc2 4; have d5 := hc2 5; have d6 := hc2 6; have d7 := hc2 7; have hbw : Below wr.heap.size wr w1 := (((Below.refl _ _).alloc (Nat.le_refl _) _).alloc (by simp) _).trans (hb1.mono (by simp <;> omega)); have hm1 := hmap.below hbw hmap.lt; have hlk := names_lookup hm1 team num; rw [HMEM.out] at hlk; clear hc1 hc2 hf1 hf2)
      | (go_at_call 31; refine (brests_c ⟨team, num, ax, ay, sx, sy, 0, true⟩ _).mono ?_; rintro e w2 ⟨rfl, hb2⟩; rw [HR.out]; have f0 := (hb2.cell (p := ⟨wr.heap.size + 1, 0, none⟩) hz).trans d0; have f1 := (hb2.cell (p := ⟨wr.heap.size + 1, 1, none⟩) hz).trans d1; have f6 := (hb2.cell (p := ⟨wr.heap.size + 1, 6, none⟩) hz).trans d6; have hm2 := hm1.below hb2 hm1.lt; clear d0 d1 d2 d3 d4 d5 d6 d7 hlk)
      | (at_mapUpdate; refine wpList_names rfl _ rfl _ _ _ rfl w.heap.size ((bs.take k).map Bod.name) team num rfl rfl rfl hm2 HNM.out ?_; intro w3 hm3 hg3))
    go_roundw
    case rel => exact ⟨k + 1, by omega, by go_num, by rw [HKS.out]; exact hm3, ((hbel.trans (hbw.mono hbel.size)).trans (hb2.mono (by have := hbw.size; have := hbel.size; omega))).grown hg3 (by have := hb2.size; have := hbw.size; have := hbel.size; omega) (fun q hq => by cases hq; exact Nat.le_refl _), HBG.out⟩
    case measure => simp [intOf]; omega
end Ck
end Go.Proofs.YtopfebbijnhpfaaGreat

namespace Go.Proofs.YtopfebbijnhpfaaGreat
open Go.RowKit
def spSh : Sh := .recd (.cons (.int .i64) (.cons (.int .i64) .nil))
def mvSh : Sh := .recd (.cons spSh (.cons spSh (.cons (.int .i64) .nil)))
def bdSh : Sh := .recd (.cons (.int .i64) (.cons (.int .i64) (.cons mvSh (.cons .bool .nil))))
def bodOf (x : bdSh.ty) : Ck.Bod := ⟨x.1, x.2.1, x.2.2.1.1.1, x.2.2.1.1.2.1, x.2.2.1.2.1.1, x.2.2.1.2.1.2.1, x.2.2.1.2.2.1, x.2.2.2.1⟩
def scnB (l : List bdSh.ty) : Bool := Ck.sceneB (l.map bodOf)
theorem rep_nilv {h : List ABlk} {g : Gh} {w : World} {v : Value} (r : Rep h g w .nils v) : v = .slice none 0 0 := by cases r; rfl
theorem bods_rep {M : Nat → Prop} {w : World} {xs : List bdSh.ty} {v : Value} (r : Rep [] ⟨fun _ => Go.undef, M⟩ w (.ro bdSh xs) v) : Ck.Bods w v (xs.map bodOf) := by
  cases r with
  | ro0 e p c hc hp => exact .inl ⟨p, c, rfl, rfl⟩
  | ro1 e xs b o c us h0 h1 h2 hm hc hr =>
    have hcell : ∀ n x, xs[n]? = some x → ∀ j, j < 8 → w.cell? ⟨b, o + n * 8 + j, none⟩ = (bodOf x).cells[j]? := fun n x hx j hj => by
      match j, hj with
      | 0, _ => have f := hr n x 0 (.int .i64 x.1) hx rfl; exact (hc n x 0 (.int .i64 x.1) hx rfl).trans (congrArg some (rep_p0 f rfl))
      | 1, _ => have f := hr n x 1 (.int .i64 x.2.1) hx rfl; exact (hc n x 1 (.int .i64 x.2.1) hx rfl).trans (congrArg some (rep_p0 f rfl))
      | 2, _ => have f := hr n x 2 (.int .i64 x.2.2.1.1.1) hx rfl; exact (hc n x 2 (.int .i64 x.2.2.1.1.1) hx rfl).trans (congrArg some (rep_p0 f rfl))
      | 3, _ => have f := hr n x 3 (.int .i64 x.2.2.1.1.2.1) hx rfl; exact (hc n x 3 (.int .i64 x.2.2.1.1.2.1) hx rfl).trans (congrArg some (rep_p0 f rfl))
      | 4, _ => have f := hr n x 4 (.int .i64 x.2.2.1.2.1.1) hx rfl; exact (hc n x 4 (.int .i64 x.2.2.1.2.1.1) hx rfl).trans (congrArg some (rep_p0 f rfl))
      | 5, _ => have f := hr n x 5 (.int .i64 x.2.2.1.2.1.2.1) hx rfl; exact (hc n x 5 (.int .i64 x.2.2.1.2.1.2.1) hx rfl).trans (congrArg some (rep_p0 f rfl))
      | 6, _ => have f := hr n x 6 (.int .i64 x.2.2.1.2.2.1) hx rfl; exact (hc n x 6 (.int .i64 x.2.2.1.2.2.1) hx rfl).trans (congrArg some (rep_p0 f rfl))
      | 7, _ => have f := hr n x 7 (.bool x.2.2.2.1) hx rfl; exact (hc n x 7 (.bool x.2.2.2.1) hx rfl).trans (congrArg some (rep_p0 f rfl))
    refine .inr ⟨b, o, c, by rw [List.length_map], by rw [List.length_map]; exact h0, by rw [List.length_map]; exact Nat.le_trans h1 h2, fun i x hx j hj => ?_⟩
    rw [List.getElem?_map] at hx
    cases hy : xs[i]? with
    | none => rw [hy] at hx; cases hx
    | some y => rw [hy] at hx; cases hx; exact hcell i y hy j hj
def scnE (l : List bdSh.ty) : Int := Ck.errB (scnB l)
def ccheckF : List AVal → Option AOut
  | [.ro (.recd (.cons (.int .i64) (.cons (.int .i64) (.cons (.recd (.cons (.recd (.cons (.int .i64) (.cons (.int .i64) .nil))) (.cons (.recd (.cons (.int .i64) (.cons (.int .i64) .nil))) (.cons (.int .i64) .nil)))) (.cons .bool .nil))))) xs] => some (i1 (scnE xs))
  | [.nils] => some (i1 0)
  | _ => none
theorem ccheck_fsp : FspOk Tryz.prog 17 (toFsp ccheckF) where
  enter := fun _ _ => by kernel_rfl
  nat := toFsp_nat ccheckF
  calls := fun args out hout M w cargs hM hl hr => by
    have h := toFsp_some hout
    unfold ccheckF at h
    have main : ∀ v bs e, cargs = #[v] → Ck.Bods w v bs → Ck.errB (Ck.sceneB bs) = e → Calls Tryz.prog 17 cargs w (CPost M w (i1 e)) := fun v bs e hc hb he => by
      subst hc
      refine (Ck.ccheck_c bs v w hb).mono ?_
      rintro e' w' ⟨rfl, hb'⟩
      refine ⟨M, fun _ h => h, fun _ h => .inl h, fun b h => Nat.lt_of_lt_of_le (hM b h) hb'.size, hb', ?_⟩
      rw [he]
      exact ⟨_, rfl, .int _ _⟩
    split at h
    · rename_i xs
      cases h
      have hs : cargs.size = 1 := hl.symm
      have e : cargs = #[cargs[0]] := by
        apply Array.ext
        · exact hs
        · intro j h1 h2
          have : j = 0 := by omega
          subst this; rfl
      exact main cargs[0] _ _ e (bods_rep (hr 0 _ _ rfl (Array.getElem?_eq_getElem (by omega)))) rfl
    · cases h
      have hs : cargs.size = 1 := hl.symm
      have e : cargs = #[cargs[0]] := by
        apply Array.ext
        · exact hs
        · intro j h1 h2
          have : j = 0 := by omega
          subst this; rfl
      have r := hr 0 _ _ rfl (Array.getElem?_eq_getElem (by omega : 0 < cargs.size))
      refine main cargs[0] [] _ e (.inl ⟨none, 0, ?_, rfl⟩) rfl
      exact rep_nilv r
    · cases h
end Go.Proofs.YtopfebbijnhpfaaGreat

namespace Go.Proofs.YtopfebbijnhpfaaGreat
open Go.RowKit
section
variable {α : Type} (t n x y sx sy sp : Int) (o : Bool) (t' n' x' y' sx' sy' sp' : Int) (o' : Bool) (el : Int) (k : AOut → Option α)
end
end Go.Proofs.YtopfebbijnhpfaaGreat

namespace Go.Proofs.YtopfebbijnhpfaaGreat
theorem near_eq {n d : Int} (hn : 0 ≤ n) (hd : 0 < d) : rnd 3 false n d = (2 * n + d) / (2 * d) := by
  have hu : up1 3 false (n % d) d = (decide (0 < n % d) && decide (d ≤ n % d + n % d)) := rfl
  unfold rnd
  rw [hu]
  have e1 := Int.emod_add_mul_ediv n d
  have e2 := Int.emod_nonneg n (show d ≠ 0 by omega)
  have e3 := Int.emod_lt_of_pos n hd
  have hmul : 2 * d * (n / d) = 2 * (d * (n / d)) := by rw [Int.mul_assoc]
  generalize n / d = q at *
  generalize n % d = r at *
  by_cases h : d ≤ r + r
  · rw [decide_eq_true (show 0 < r by omega), decide_eq_true h]
    have e : 2 * n + d = (2 * r - d) + 2 * d * (q + 1) := by rw [Int.mul_add, hmul]; omega
    rw [e, Int.add_mul_ediv_left _ _ (by omega), Int.ediv_eq_zero_of_lt (by omega) (by omega)]
    simp
  · rw [decide_eq_false h, Bool.and_false]
    have e : 2 * n + d = (2 * r + d) + 2 * d * q := by rw [hmul]; omega
    rw [e, Int.add_mul_ediv_left _ _ (by omega), Int.ediv_eq_zero_of_lt (by omega) (by omega)]
    simp
theorem near_mono {n m d : Int} (hn : 0 ≤ n) (h : n ≤ m) (hd : 0 < d) : rnd 3 false n d ≤ rnd 3 false m d := by
  rw [near_eq hn hd, near_eq (by omega) hd]
  exact Int.ediv_le_ediv (by omega) (by omega)
theorem near_mul {m d : Int} (hm : 0 ≤ m) (hd : 0 < d) : rnd 3 false (m * d) d = m := by
  rw [near_eq (Int.mul_nonneg hm (by omega)) hd, show 2 * (m * d) + d = d + 2 * d * m by rw [Int.mul_comm m d, Int.mul_assoc]; omega, Int.add_mul_ediv_left _ _ (by omega), Int.ediv_eq_zero_of_lt (by omega) (by omega)]
  omega
theorem near_nn {n d : Int} (hn : 0 ≤ n) (hd : 0 < d) : 0 ≤ rnd 3 false n d := rnd_nn hn hd
def lesV (fl ke p : Int) : Int := rnd 3 false ((fl - ke) * p) 1000
def brkV (fl ke sw p q : Int) : Int := rnd 3 false ((fl - lesV fl ke p) * (1000000 - sw * q)) 1000000
def bndV (be q : Int) : Int := rnd 3 false (65536 * (be * (2000 - q))) 2000000
structure GrIs (fl ke sw be we : Int) : Prop where
  ke : 1 ≤ ke ∧ ke ≤ fl
  fl : fl ≤ 65536
  sw : 0 ≤ sw ∧ sw ≤ 1000
  be : 0 ≤ be ∧ be ≤ 1000
  we : 0 ≤ we ∧ we ≤ 1000
abbrev Gr1 (p : Int) : Prop := 0 ≤ p ∧ p ≤ 1000
theorem mul_in {a b A B : Int} (ha : 0 ≤ a ∧ a ≤ A) (hb : 0 ≤ b ∧ b ≤ B) : 0 ≤ a * b ∧ a * b ≤ A * B := ⟨Int.mul_nonneg ha.1 hb.1, Int.mul_le_mul ha.2 hb.2 hb.1 (by omega)⟩
theorem les_in {fl ke sw be we p : Int} (g : GrIs fl ke sw be we) (hp : Gr1 p) : 0 ≤ lesV fl ke p ∧ lesV fl ke p ≤ fl - ke := by
  have := g.ke
  have a := mul_in (a := fl - ke) (A := fl - ke) (b := p) (B := 1000) ⟨by omega, by omega⟩ hp
  refine ⟨near_nn a.1 (by omega), ?_⟩
  have := near_mono a.1 a.2 (d := 1000) (by omega)
  rwa [near_mul (by omega) (by omega)] at this
theorem swp_in {sw q : Int} (hs : 0 ≤ sw ∧ sw ≤ 1000) (hq : Gr1 q) : 0 ≤ 1000000 - sw * q ∧ 1000000 - sw * q ≤ 1000000 := by
  have := mul_in hs hq; omega
theorem brk_in {fl ke sw be we p q : Int} (g : GrIs fl ke sw be we) (hp : Gr1 p) (hq : Gr1 q) : 0 ≤ brkV fl ke sw p q ∧ brkV fl ke sw p q ≤ fl := by
  have l := les_in g hp
  have k := g.ke
  have s := swp_in g.sw hq
  have a := mul_in (a := fl - lesV fl ke p) (A := fl) (b := 1000000 - sw * q) (B := 1000000) ⟨by omega, by omega⟩ s
  refine ⟨near_nn a.1 (by omega), ?_⟩
  have := near_mono a.1 a.2 (d := 1000000) (by omega)
  rwa [near_mul (by omega) (by omega)] at this
theorem bnd_in {be q : Int} (hb : 0 ≤ be ∧ be ≤ 1000) (hq : Gr1 q) : 0 ≤ bndV be q ∧ bndV be q ≤ 65536 := by
  have a := mul_in hb (b := 2000 - q) (B := 2000) ⟨by omega, by omega⟩
  have b := mul_in (a := 65536) (A := 65536) (b := be * (2000 - q)) (B := 2000000) ⟨by omega, by omega⟩ ⟨a.1, by omega⟩
  refine ⟨near_nn b.1 (by omega), ?_⟩
  have := near_mono b.1 b.2 (d := 2000000) (by omega)
  rwa [near_mul (by omega) (by omega)] at this
end Go.Proofs.YtopfebbijnhpfaaGreat

namespace Go.Proofs.YtopfebbijnhpfaaGreat
open Go.RowKit
theorem rndP_small {how n d : Int} {neg : Bool} (h0 : 0 ≤ n) (hd : 0 < d) (h : n / d < 18446744073709551614) : rndP how neg n d = rnd how neg n d := by
  have h1 := Int.ediv_nonneg h0 (Int.le_of_lt hd)
  unfold rndP
  rw [decide_eq_true (by omega), cond_true]
  unfold rnd
  cases up1 how neg (n % d) d <;> simp only [cond_true, cond_false] <;> omega
theorem rnd_cut (neg : Bool) (n d : Int) : rnd 0 neg n d = n / d := by unfold rnd up1; simp
theorem div_le {n d m : Int} (hd : 0 < d) (h : n ≤ m * d) : n / d ≤ m := Int.ediv_le_of_le_mul hd h
theorem ab_le {x B : Int} : ab x ≤ B ↔ -B ≤ x ∧ x ≤ B := by unfold ab; split <;> omega
theorem ab_sg (neg : Bool) {n : Int} (h : 0 ≤ n) : ab (sg neg n) = n := by
  unfold ab sg; cases neg
  · simp only [cond_false]; rw [if_neg (by omega)]
  · simp only [cond_true]; split <;> omega
theorem ok_le {x B : Int} (h : -B ≤ x ∧ x ≤ B) (hB : B ≤ 70368744177664) : okB x = true := by rw [ok_iff]; omega
theorem i64_in (n : Int) (h : -9223372036854775808 ≤ n ∧ n ≤ 9223372036854775807) : IntKind.i64.wrap n = n := by rw [IntKind.wrap_i64]; omega
theorem gt_le (a b : Int) : decide (a > b) = !decide (a ≤ b) := by
  by_cases h : a ≤ b
  · rw [decide_eq_true h, decide_eq_false (by omega)]; rfl
  · rw [decide_eq_false h, decide_eq_true (by omega)]; rfl
theorem ge_lt (a b : Int) : decide (a ≥ b) = !decide (a < b) := by
  by_cases h : a < b
  · rw [decide_eq_true h, decide_eq_false (by omega)]; rfl
  · rw [decide_eq_false h, decide_eq_true (by omega)]; rfl
theorem in_dec {a lo hi : Int} : (decide (lo ≤ a) && decide (a ≤ hi)) = true ↔ lo ≤ a ∧ a ≤ hi := by simp
theorem ab_pos {x : Int} (h : 0 ≤ x) : ab x = x := by unfold ab; rw [if_neg (by omega)]
theorem ng_pos {x : Int} (h : 0 ≤ x) : ngB x = false := decide_eq_false (by omega)
theorem sl_near {a n d : Int} (ha : 0 ≤ a ∧ a ≤ 65536) (hn : 0 ≤ n ∧ n ≤ 2000000) (hd : 0 < d ∧ d ≤ 2000000) : slV a n d 3 = rnd 3 false (a * n) d ∧ slE a n d 3 = 0 := by
  have hm := mul_in ha hn
  have hq : a * n / d ≤ 131072000000 := Int.ediv_le_of_le_mul hd.1 (by
    have := Int.mul_le_mul_of_nonneg_left (show 1 ≤ d by omega) (show (0 : Int) ≤ 131072000000 by omega)
    omega)
  have h0 := rnd_nn (how := 3) (neg := false) hm.1 hd.1
  have hg : scG a n d = false := by unfold scG; rw [ng_pos ha.1, ng_pos hn.1, ng_pos (by omega)]; rfl
  have hP : slP a n d 3 = rnd 3 false (a * n) d := by
    unfold slP
    rw [hg, ab_pos ha.1, ab_pos hn.1, ab_pos (by omega)]
    exact rndP_small hm.1 hd.1 (by omega)
  have hok : slOk a n d = true := by
    unfold slOk
    rw [ok_iff.2 (by omega), rate_iff.2 (by omega), rate_iff.2 (by omega)]; rfl
  have hr : rnd 3 false (a * n) d ≤ 131072000001 := by
    unfold rnd
    cases up1 3 false (a * n % d) d <;> simp only [cond_true, cond_false] <;> omega
  have hd0 : (d == 0) = false := by simp; omega
  have hf : fxB (rnd 3 false (a * n) d) = true := by simp only [fxB, decide_eq_true_eq]; omega
  unfold slV slE
  rw [hok, hd0, hP, hg]
  unfold fxV fxE
  rw [hf]
  exact ⟨rfl, rfl⟩
end Go.Proofs.YtopfebbijnhpfaaGreat

namespace Go.Proofs.YtopfebbijnhpfaaGreat
open Go.RowKit
noncomputable def mW (dx dy c : Int) : Int := sg (ngB c) (shr (ab c) (sq2 dx dy))
structure Way (dx dy : Int) : Prop where
  wx : -65536 ≤ mW dx dy dx ∧ mW dx dy dx ≤ 65536
  wy : -65536 ≤ mW dx dy dy ∧ mW dx dy dy ≤ 65536
  sq : mW dx dy dx * mW dx dy dx + mW dx dy dy * mW dx dy dy ≤ 4294967296
  e : uniE dx dy = 0
  vx : uniV dx dy dx = mW dx dy dx
  vy : uniV dx dy dy = mW dx dy dy
end Go.Proofs.YtopfebbijnhpfaaGreat

namespace Go.Proofs.YtopfebbijnhpfaaGreat
open Go.RowKit
end Go.Proofs.YtopfebbijnhpfaaGreat

namespace Go.Proofs.YtopfebbijnhpfaaGreat
open Go.RowKit
theorem fntried1_panic (b : Nat) (x y c : Int) (w : World) (hp : w.cell? ⟨b, 0, none⟩ = some (.int .i64 x)) (hq : w.cell? ⟨b + 1, 0, none⟩ = some (.int .i64 y)) (fp : w.frozen? ⟨b, 0, none⟩ = false) (fq : w.frozen? ⟨b + 1, 0, none⟩ = false) (hqb : b + 1 < w.heap.size) :
    CallsD Tryz.prog 146 #[.pointer (some ⟨b, 0, none⟩), .pointer (some ⟨b + 1, 0, none⟩)] (.panicking (fxPanic c)) w fun e u' w' =>
      e = .returned (.tuple #[]) ∧ u' = .panicking [{ v := .iface 143 (.agg #[.int .i64 c]), recovered := true }] ∧ w'.cell? ⟨b, 0, none⟩ = some (.int .i64 0) ∧ w'.cell? ⟨b + 1, 0, none⟩ = some (.int .i64 c) ∧ Exe w.heap.size b w w' := by
  refine callsD_of_wpS Tryz.func146 rfl fun c₀ cs hu => ?_
  apply wpS_seq
  apply wpS_region
  simp [wpOpsS, go_sem, recoverD, hu, fxPanic, Tryz.ntmps146, Exit.thenS, Array.replicate, List.replicate]
  refine wpS_of_wp ?_
  clear hu
  have hta := fun w => fxassert_yes c w
  have ha : ∀ o, Below w.heap.size w (w.alloc o) := fun o => (Below.refl _ _).alloc (Nat.le_refl _) o
  have hp' : ∀ o, (w.alloc o).cell? ⟨b, 0, none⟩ = some (.int .i64 x) := fun o => ((ha o).cell (p := ⟨b, 0, none⟩) (by simp; omega)).trans hp
  have hq' : ∀ o, (w.alloc o).cell? ⟨b + 1, 0, none⟩ = some (.int .i64 y) := fun o => ((ha o).cell (p := ⟨b + 1, 0, none⟩) (by simp; omega)).trans hq
  have fp' : ∀ o, (w.alloc o).frozen? ⟨b, 0, none⟩ = false := fun o => ((ha o).frozen (p := ⟨b, 0, none⟩) (by simp; omega)).trans fp
  have fq' : ∀ o, (w.alloc o).frozen? ⟨b + 1, 0, none⟩ = false := fun o => ((ha o).frozen (p := ⟨b + 1, 0, none⟩) (by simp; omega)).trans fq
  clear ha
  go_wp2
  go_region
  all_goals
    go_big_unhide
    simp [bodyPostS, results, Tryz.results146, go_sem]
    refine ⟨cellSet _ (hp' _), cellSet (u := .int .i64 y) _ ((cellSetNe _ (by simp)).trans (hq' _)), ?_⟩
    exact (((Exe.of ((Below.refl w.heap.size w).alloc (Nat.le_refl _) _)).trans (.set _)).trans (.set1 _)).drew
theorem fntried1_idle (b : Nat) (w : World) :
    CallsD Tryz.prog 146 #[.pointer (some ⟨b, 0, none⟩), .pointer (some ⟨b + 1, 0, none⟩)] .returning w fun e u' w' =>
      e = .returned (.tuple #[]) ∧ u' = .returning ∧ Below w.heap.size w w' := by
  refine callsD_of_wpS Tryz.func146 rfl fun c₀ cs hu => ?_
  apply wpS_seq
  apply wpS_region
  simp [wpOpsS, go_sem, recoverD, hu, Tryz.ntmps146, Exit.thenS, Array.replicate, List.replicate]
  refine wpS_of_wp ?_
  have hta := fun w => fxassert_nil w
  go_wp2
  all_goals
    simp [bodyPostS, results, Tryz.results146, go_sem]
    exact ⟨.returning, by cases c₀; simp_all, rfl, (Below.refl _ _).alloc (Nat.le_refl _) _⟩
set_option maxHeartbeats 1000000 in
theorem fntried_ok (K : FuncId) (caps : Array Value) (v : Int) (Q : World → Prop) (he : ∀ w, (callFunc K caps).run Tryz.prog w = .ok (.enter K caps) w) (w : World)
    (h : ∀ w1, Below w.heap.size w w1 → w.heap.size + 1 < w1.heap.size → Calls Tryz.prog K caps w1 fun e w' => e = .returned (.int .i64 v) ∧ w'.heap[w.heap.size]? = w1.heap[w.heap.size]? ∧ w'.heap[w.heap.size + 1]? = w1.heap[w.heap.size + 1]? ∧ w1.heap.size ≤ w'.heap.size ∧ Q w') :
    Calls Tryz.prog 144 #[.func (.func K) #[] caps] w fun e w' => e = .returned (.tuple #[.int .i64 v, .int .i64 0]) ∧ ∃ w2, Q w2 ∧ Exe w2.heap.size w.heap.size w2 w' := by
  have hmf : ∀ (fn : Fn) (first cap : Array Value) (w : World), (Instr.makeFunc fn first cap).run Tryz.prog w = .ok (.func fn first cap) w := fun _ _ _ _ => rfl
  have HH := hidOf h
  have hcall : ∀ w, (callFunc K caps).run Tryz.prog w = .ok (.enter K caps) w := he
  clear h he
  go_enter_defers Tryz.func144, Tryz.ntmps144
  go_wp2_with (go_at_fn K; refine (HH.out _ (((Below.refl _ _).alloc (Nat.le_refl _) _).alloc (by simp) _) (by simp)).mono ?_; rintro e w1 ⟨rfl, hb1, hb2, hz1, hq⟩; obtain ⟨hc1, hc2, hf1, hf2⟩ := two_kept hb1 hb2; have hz : w.heap.size + 1 < w1.heap.size := (by simp at hz1; omega); have hd1 := hc1 0; have hd2 := hc2 0)
  refine leaves_cons (f := 146) (args := #[.pointer (some ⟨w.heap.size, 0, none⟩), .pointer (some ⟨w.heap.size + 1, 0, none⟩)]) (by simp) (by simp [go_sem]) ?_
  have hs : ((w1.setCell ⟨w.heap.size, 0, none⟩ (.int .i64 v)).setCell ⟨w.heap.size + 1, 0, none⟩ (.int .i64 0)).heap.size = w1.heap.size := by simp [World.setCell]
  refine (fntried1_idle w.heap.size _).mono ?_
  rintro e u' w2 ⟨rfl, rfl, hb2⟩
  rw [hs] at hb2
  have g1 : w2.cell? ⟨w.heap.size, 0, none⟩ = some (.int .i64 v) := by
    rw [hb2.cell (p := ⟨w.heap.size, 0, none⟩) (by show w.heap.size < _; omega), cellSetNe _ (by simp)]
    exact cellSet _ hd1
  have g2 : w2.cell? ⟨w.heap.size + 1, 0, none⟩ = some (.int .i64 0) := by
    rw [hb2.cell (p := ⟨w.heap.size + 1, 0, none⟩) hz]
    exact cellSet (u := .int .i64 0) _ ((cellSetNe _ (by simp)).trans hd2)
  clear HH hcall hmf hc1 hc2 hf1 hf2 hd1 hd2
  simp [Leaves, settle, results, Tryz.results144, go_sem, g1, g2]
  exact ⟨w1, hq, ((Exe.set _).trans (.set1 _)).trans (Exe.of hb2)⟩
set_option maxHeartbeats 1000000 in
theorem fntried_err (K : FuncId) (caps : Array Value) (c : Int) (Q : World → Prop) (he : ∀ w, (callFunc K caps).run Tryz.prog w = .ok (.enter K caps) w) (w : World)
    (h : ∀ w1, Below w.heap.size w w1 → w.heap.size + 1 < w1.heap.size → Calls Tryz.prog K caps w1 fun e w' => e = .panicked (fxPanic c) ∧ w'.heap[w.heap.size]? = w1.heap[w.heap.size]? ∧ w'.heap[w.heap.size + 1]? = w1.heap[w.heap.size + 1]? ∧ w1.heap.size ≤ w'.heap.size ∧ Q w') :
    Calls Tryz.prog 144 #[.func (.func K) #[] caps] w fun e w' => e = .returned (.tuple #[.int .i64 0, .int .i64 c]) ∧ ∃ w2, Q w2 ∧ Exe w2.heap.size w.heap.size w2 w' := by
  have hmf : ∀ (fn : Fn) (first cap : Array Value) (w : World), (Instr.makeFunc fn first cap).run Tryz.prog w = .ok (.func fn first cap) w := fun _ _ _ _ => rfl
  have HH := hidOf h
  have hcall : ∀ w, (callFunc K caps).run Tryz.prog w = .ok (.enter K caps) w := he
  clear h he
  go_enter_defers Tryz.func144, Tryz.ntmps144
  go_wp2_with (go_at_fn K; refine (HH.out _ (((Below.refl _ _).alloc (Nat.le_refl _) _).alloc (by simp) _) (by simp)).mono ?_; rintro e w1 ⟨rfl, hb1, hb2, hz1, hq⟩; obtain ⟨hc1, hc2, hf1, hf2⟩ := two_kept hb1 hb2; have hz : w.heap.size + 1 < w1.heap.size := (by simp at hz1; omega))
  refine leaves_cons (f := 146) (args := #[.pointer (some ⟨w.heap.size, 0, none⟩), .pointer (some ⟨w.heap.size + 1, 0, none⟩)]) (by simp) (by simp [go_sem]) ?_
  refine (fntried1_panic w.heap.size 0 0 c _ (hc1 0) (hc2 0) (hf1 0) (hf2 0) hz).mono ?_
  rintro e u' w2 ⟨rfl, rfl, g1, g2, hb2⟩
  clear HH hcall hmf hc1 hc2 hf1 hf2
  simp [Leaves, settle, results, Tryz.results144, go_sem, g1, g2]
  exact ⟨w1, hq, hb2⟩
theorem fntried_tried : Tried2Ok Tryz.prog 144 143 fitI valI (.int .i64 0) (.int .i64 0) where
  shape := fun h g w u z hu hr => by
    unfold fitI at hu
    split at hu
    · exact rep_int hr
    · cases hu
  rep := fun h g w u hu => by
    unfold fitI at hu
    split at hu
    · exact .int _ _
    · cases hu
  repz := fun h g w => .int _ _
  enter := fun args w => by kernel_rfl
  ok := fun K caps u Q hu he w h => by
    unfold fitI at hu
    split at hu
    · exact fntried_ok K caps _ Q he w h
    · cases hu
  err := fun K caps c Q he w h => fntried_err K caps c Q he w h
end Go.Proofs.YtopfebbijnhpfaaGreat
