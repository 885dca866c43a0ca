/- Parts of the proof, in build order. -/
import Derived.Test.YtcbfmkfmdcabmaaM2
import Derived.WideKeyRuns
namespace Go.Proofs.Ytcbfmkfmdcabmaa
open Go.RowKit
section
variable {P : Program} {T : Tab} {o : Oper} {a : Act} {w : World} {α : Type} {r : α}
theorem make_sound {K} (hT : TabOk P T) (st : AS) {g : Gh} (s : St K st.heap g w) (t : TypeId) (x y : Operand) (ho : o.op = .makeSlice t x y) (u v : AVal) (hu : Rep st.heap g w u (a.eval x)) (hv : Rep st.heap g w v (a.eval y))
    (k : AVal → AS → Option α) (hk : evMake real T t u v st.heap (fun v h => k v { st with heap := h }) = some r) : Good K P o a st g w k r := by
  unfold evMake at hk
  split at hk
  · rename_i et n m hund
    have hx := rep_int hu
    have hy := rep_int hv
    split at hk
    · rename_i e z hsh hz
      split at hk
      · rename_i hc
        obtain ⟨h1, h0, hb⟩ := hc
        split at hk
        · rename_i d hd
          simp only [real] at hk
          split at hk
          · rename_i hn
            obtain ⟨hn0, hnm, hroom⟩ := hn
            obtain ⟨p, rfl⟩ := Int.eq_ofNat_of_zero_le hn0
            obtain ⟨q, rfl⟩ := Int.eq_ofNat_of_zero_le (show 0 ≤ m by omega)
            have hpq : p ≤ q := by omega
            obtain ⟨i, zv, hi, hs, hby, hzi, hzv⟩ := tab_zero hT hz
            have hsim := Sh.all_spec hd
            have hzz : Rep st.heap g w z zv := by rw [← hzv]; exact rep_value zv
            have hscal : z.cells.all AVal.scalar = true := by
              refine List.all_eq_true.2 fun c hc => ?_
              obtain ⟨j, hj, rfl⟩ := List.mem_iff_getElem.1 hc
              have hj2 : j < (e.cells d).length := by rw [← hsim.1]; exact hj
              have := hsim.2 j _ _ (List.getElem?_eq_getElem hj) (List.getElem?_eq_getElem hj2)
              have hp := Sh.cells_pure e d _ (List.getElem_mem hj2)
              rcases this with h | ⟨h, _⟩
              · rw [h]
                generalize (e.cells d)[j] = c at hp
                cases c <;> first | rfl | (simp [AVal.pure0] at hp)
              · rw [h]; rfl
            obtain ⟨c1, c2, _⟩ := cells_rep hzz hscal
            have hzs : zv.cells.size = e.size := by rw [c1, hsim.1, Sh.cells_size]
            have hbytes : (i.bytes : Int) * (q : Int) ≤ 281474976710656 := by
              rw [hby, Int.mul_comm]; simp only [room] at hroom; omega
            have hq1 : q ≤ q * T.bytes et := Nat.le_mul_of_pos_right _ (Nat.pos_of_ne_zero hb)
            have hq2 : q * T.bytes et ≤ 140737488355328 := by
              simp only [room] at hroom
              have : ((q * T.bytes et : Nat) : Int) ≤ 140737488355328 := by rw [Int.natCast_mul]; exact hroom
              omega
            have hrun := run_make (P := P) w t et i zv (und_sl hT hund) hi hzi .i64 .i64 p q (by omega) (by omega) hbytes (by omega)
            have hlen : (List.replicate p d).length = p := by simp
            have hmc : (madeCells zv.cells (q * i.size)).size = q * e.size := by rw [size_madeCells, hs, h1]
            obtain ⟨l, s', hr⟩ := new_row s et e h0 (List.replicate p d) (madeCells zv.cells (q * i.size)) q (by rw [hlen]; exact hpq) (by simp only [maxLen]; omega) hmc (fun n x j c u hx hc hu => by
              have hxd : x = d := by
                rw [List.getElem?_replicate] at hx
                split at hx
                · cases hx; rfl
                · cases hx
              subst hxd
              have hj : j < e.size := by have := (List.getElem?_eq_some_iff.1 hc).1; rwa [Sh.cells_size] at this
              have hlt := (Array.getElem?_eq_some_iff.1 hu).1
              have hu2 : u = zv.cells[j]! := by
                have hmod : (n * e.size + j) % zv.cells.size = j := by rw [hzs, Nat.mul_comm, Nat.mul_add_mod, Nat.mod_eq_of_lt hj]
                simp only [madeCells, Array.getElem?_map, Array.getElem?_range] at hu
                rw [if_pos (by rw [size_madeCells] at hlt; exact hlt)] at hu
                simp only [Option.map_some, Option.some.injEq] at hu
                rw [← hu, hmod]
              have hz1 : j < z.cells.length := by rw [hsim.1, Sh.cells_size]; exact hj
              have hzc := List.getElem?_eq_getElem hz1
              refine (hsim.2 j _ c hzc hc).rep ?_
              rw [hu2, getElem!_pos zv.cells _ (by omega)]
              exact (c2 j _ _ hzc (Array.getElem?_eq_getElem (by omega))).2)
            rw [hlen] at l s' hr
            refine ⟨_, _, _, _, _, hk, rfl, s', l, hr, ?_⟩
            simp [execOp, ho, hx, hy, hrun]
          · cases hk
        · cases hk
      · cases hk
    · cases hk
  · cases hk
theorem store_row {K h g w} (s : St K h g w) {i : Nat} {t : TypeId} {e : Sh} {xs : List e.ty} (hi : h[i]? = some (.row true t e xs)) (h0 : 0 < e.size) {b n c : Nat} (hρ : g.ρ i = .slice (some ⟨b, 0, none⟩) n c)
    {ix off : Nat} (hlt : ix < xs.length) {x d : e.ty} (hx : xs[ix]? = some x) {vs : List AVal} {xs' : List Value} (ho : off + vs.length ≤ e.size) (hd : Sims (List.overAt (e.cells x) off vs) (e.cells d)) (hl : xs'.length = vs.length)
    (hr : ∀ (j : Nat) c z, vs[j]? = some c → xs'[j]? = some z → Rep h g w c z) :
    ∃ cur, w.heap[b]? = some (.cells cur t (0, 0)) ∧ ix * e.size + off + vs.length ≤ cur.size ∧
      Le K h g w (h.set i (.row true t e (xs.set ix d))) g (w.setRow b (cur.toList.take (ix * e.size + off) ++ xs' ++ cur.toList.drop (ix * e.size + off + xs'.length)).toArray) ∧
      St K (h.set i (.row true t e (xs.set ix d))) g (w.setRow b (cur.toList.take (ix * e.size + off) ++ xs' ++ cur.toList.drop (ix * e.size + off + xs'.length)).toArray) := by
  obtain ⟨vv, h1, h2⟩ := (rowOk_iff h0).1 (s.blk i _ hi)
  rcases h1.2 with ⟨h3, _⟩ | ⟨b', cap, cur, h3, h5, h6, h7, h8, h9, h10⟩
  · rw [h3] at hρ; cases hρ
  · rw [h3] at hρ; cases hρ
    have hmul : (ix + 1) * e.size ≤ xs.length * e.size := Nat.mul_le_mul_right _ hlt
    have hmul2 : xs.length * e.size ≤ c * e.size := Nat.mul_le_mul_right _ h7
    rw [Nat.add_mul] at hmul
    have hfit : ix * e.size + off + vs.length ≤ cur.size := by omega
    have hb : blockOf (g.ρ i) = some b := by rw [h3]; rfl
    have ha : alive h i := ⟨_, hi, by simp⟩
    have l : Le K h g w (h.set i (.row true t e (xs.set ix d))) g (w.setRow b (cur.toList.take (ix * e.size + off) ++ xs' ++ cur.toList.drop (ix * e.size + off + xs'.length)).toArray) :=
      le_setRow s hi (by simp) hb _ (fun wr cs' e => by cases e) (fun wr t2 e2 xs2 e' => by cases e'; exact ⟨xs, rfl, fun _ => by simp⟩) (by simp) (fun _ _ _ _ _ _ e => by cases e) (fun cs e => by cases e) (fun t e xs e' => by cases e')
    refine ⟨cur, h6, hfit, l, s.turn i _ l ha (setRow_keeps s ha hb _) ((rowOk_iff h0).2 ⟨(List.overAt cur.toList (ix * e.size + off) xs').take (xs.length * e.size), ?_, fun m y j cc hy hcc => ?_⟩)⟩
    · refine ⟨by simp [overAt_length]; omega, .inr ⟨b, c, (List.overAt cur.toList (ix * e.size + off) xs').toArray, by rw [h3]; simp, Nat.zero_le _, ?_, by simpa using h7, h8, by simp [overAt_length, h9], by simp⟩⟩
      rw [overAt_eq _ _ _ (by simp [hl]; omega)]
      exact setRow_heap w b cur _ t _ h6
    · have hj : j < e.size := by have := (List.getElem?_eq_some_iff.1 hcc).1; rwa [Sh.cells_size] at this
      have hm : m < xs.length := by have := (List.getElem?_eq_some_iff.1 hy).1; simpa using this
      have hmm : (m + 1) * e.size ≤ xs.length * e.size := Nat.mul_le_mul_right _ hm
      rw [Nat.add_mul] at hmm
      have hin : m * e.size + j < cur.size := by omega
      have hold : ∀ y', xs[m]? = some y' → ∀ c', (e.cells y')[j]? = some c' → ∃ u, cur.toList[m * e.size + j]? = some u ∧ Rep h g w c' u := fun y' hy' c' hc' => by
        obtain ⟨u, hu, hru⟩ := h2 m y' j c' hy' hc'
        refine ⟨u, ?_, hru⟩
        rw [← h10, List.getElem?_take] at hu
        split at hu
        · exact hu
        · cases hu
      rw [List.getElem?_take, if_pos (by omega), overAt_get _ _ _ (by simp [hl]; omega)]
      by_cases em : m = ix
      · subst em
        rw [List.getElem?_set_self hlt] at hy
        cases hy
        have hj2 : j < (List.overAt (e.cells x) off vs).length := by rw [overAt_length, Sh.cells_size]; exact hj
        have hs := hd.2 j _ cc (List.getElem?_eq_getElem hj2) hcc
        have hov := List.getElem?_eq_getElem hj2
        rw [overAt_get _ _ _ (by rw [Sh.cells_size]; exact ho)] at hov
        by_cases ej : off ≤ j ∧ j < off + vs.length
        · rw [if_pos ej] at hov
          rw [if_pos (by omega)]
          have hz : xs'[j - off]? = some (xs'[j - off]'(by omega)) := List.getElem?_eq_getElem _
          refine ⟨_, by rw [show m * e.size + j - (m * e.size + off) = j - off by omega]; exact hz, (hs.rep (hr _ _ _ hov hz)).mono l⟩
        · rw [if_neg ej] at hov
          rw [if_neg (by omega)]
          obtain ⟨u, hu, hru⟩ := hold x hx _ hov
          exact ⟨u, hu, (hs.rep hru).mono l⟩
      · rw [List.getElem?_set_ne (fun e' => em e'.symm)] at hy
        have hne : ¬ (ix * e.size + off ≤ m * e.size + j ∧ m * e.size + j < ix * e.size + off + vs.length) := by
          rcases Nat.lt_or_ge m ix with h | h
          · have : (m + 1) * e.size ≤ ix * e.size := Nat.mul_le_mul_right _ h
            rw [Nat.add_mul] at this; omega
          · have : (ix + 1) * e.size ≤ m * e.size := Nat.mul_le_mul_right _ (by omega)
            rw [Nat.add_mul] at this; omega
        rw [if_neg (by rw [hl]; exact hne)]
        obtain ⟨u, hu, hru⟩ := hold y hy cc hcc
        exact ⟨u, hu, hru.mono l⟩
theorem store_sound {K} (hT : TabOk P T) (st : AS) {g : Gh} (s : St K st.heap g w) (t : TypeId) (x y : Operand) (ho : o.op = .store t x y) (u v : AVal) (hu : Rep st.heap g w u (a.eval x)) (hv : Rep st.heap g w v (a.eval y))
    (k : AS → Option α) (hk : evStore T t u v st.heap (fun h => k { st with heap := h }) = some r) :
    ∃ st' w', k st' = some r ∧ st'.tmps = st.tmps ∧ St K st'.heap g w' ∧ Le K st.heap g w st'.heap g w' ∧ (execOp a.eval o).run P w = .ok .skip w' := by
  unfold evStore at hk
  split at hk
  · rename_i hlen
    split at hk
    · rename_i hsc
      obtain ⟨c1, c2, c3⟩ := cells_rep hv hsc
      obtain ⟨inf, hinf, hinfs, _⟩ := tab_size hT (t := t) (by omega)
      have hsize : ∀ n, T.size t = n → (sizeOf t).run P w = .ok n w := fun n hn => by simp [sizeOf, typeInfo, hinf, hinfs, hn]
      split at hk
      · rename_i i off
        split at hk
        · rename_i cs hh
          split at hk
          · rename_i hoff
            have hi := getD_some (by simp) hh
            obtain ⟨b, arr, ty, h1, h2, h3, l, s'⟩ := store_box (xs := (a.eval y).cells.toList) s hi (by simp [c1]) hoff (fun j c z hc hz => c2 j c z hc (by simpa using hz))
            have hx : a.eval x = .pointer (some ⟨b, off, none⟩) := by
              cases hu with
              | op _ _ _ a1 a2 a3 =>
                obtain ⟨b', h5, h6⟩ := a3 true cs hi
                rw [h1] at h5; cases h5; exact h6
            refine ⟨_, _, hk, rfl, s', l, ?_⟩
            have hst := run_storeCells_at P b off ty (a.eval y).cells.toList 0 arr w h2 (by simp [c1]; omega) c3
            simp only [Nat.add_zero] at hst
            have hsz := hsize _ hlen.1.symm
            simp [execOp, ho, hx, Instr.storeAt, Instr.sureAddr, storeVar, hsz, c1, hst]
          · cases hk
        · cases hk
      · rename_i i ix off
        split at hk
        · rename_i t' e xs hh
          split at hk
          · rename_i hoff
            split at hk
            · rename_i d hd
              have hi := getD_some (by simp) hh
              have h0 : 0 < e.size := by omega
              obtain ⟨hlt, b, n, c, h5, hu'⟩ : ix < xs.length ∧ ∃ b n c, g.ρ i = .slice (some ⟨b, 0, none⟩) n c ∧ a.eval x = .pointer (some ⟨b, ix * e.size + off, none⟩) := by
                cases hu with
                | oe _ _ _ _ a1 a2 a3 => exact a3 true t' e xs hi h0
              have hget := getD_get (d := e.dflt) hlt
              obtain ⟨cur, h7, h8, l, s'⟩ := store_row s hi h0 h5 hlt hget (xs' := (a.eval y).cells.toList) hoff (Sh.all_spec hd) (by simp [c1]) (fun j c z hc hz => (c2 j c z hc (by simpa using hz)).2)
              refine ⟨_, _, hk, rfl, s', l, ?_⟩
              have hst := run_storeCells_at P b (ix * e.size + off) t' (a.eval y).cells.toList 0 cur w h7 (by simp [c1]; omega) c3
              simp only [Nat.add_zero] at hst
              have hsz := hsize _ hlen.1.symm
              simp [execOp, ho, hu', Instr.storeAt, Instr.sureAddr, storeVar, hsz, c1, hst]
            · cases hk
          · cases hk
        · cases hk
      · cases hk
    · cases hk
  · cases hk
end
end Go.Proofs.Ytcbfmkfmdcabmaa

namespace Go.Proofs.Ytcbfmkfmdcabmaa
open Go.RowKit
theorem kill_plain {K h g w} (s : St K h g w) {i : Nat} {t : TypeId} {e : Sh} {xs : List e.ty} (hi : h[i]? = some (.row true t e xs)) : Le K h g w (h.set i .dead) g w ∧ St K (h.set i .dead) g w := by
  have l : Le K h g w (h.set i .dead) g w := {
    len := by simp
    here := here_set hi (by simp)
    m := fun _ h => h
    new := fun b hb => .inl hb
    mw := fun _ _ => rfl
    k := fun _ _ => rfl
    box := fun j wr cs' _ h' => by
      rcases set_get h' with ⟨rfl, e, _⟩ | ⟨_, e⟩
      · cases e
      · exact ⟨wr, cs', e, rfl, rfl⟩
    row := fun j wr t e xs' _ h' => by
      rcases set_get h' with ⟨rfl, e, _⟩ | ⟨_, e⟩
      · cases e
      · exact ⟨wr, xs', e, fun _ => rfl, rfl⟩
    lp := fun j st pend ts ps aw bo _ h' => by
      rcases set_get h' with ⟨rfl, e, _⟩ | ⟨_, e⟩
      · cases e
      · exact ⟨st, pend, e, rfl⟩
    lockb := fun j cs h' => by
      have : i ≠ j := fun e => by subst e; rw [hi] at h'; cases h'
      rw [List.getElem?_set, if_neg this]; exact h'
    lockr := fun j t e xs h' => by
      have : i ≠ j := fun e => by subst e; rw [hi] at h'; cases h'
      rw [List.getElem?_set, if_neg this]; exact h'
    os := rfl
    tape := rfl
    output := rfl
    size := Nat.le_refl _ }
  exact ⟨l, s.turn i .dead l ⟨_, hi, by simp⟩ (fun _ _ _ _ _ => rfl) trivial⟩
theorem pure_scalar {c : AVal} (h : c.pure0 = true) : c.scalar = true := by
  cases c <;> first | rfl | (simp [AVal.pure0] at h)
section
variable {P : Program} {T : Tab} {o : Oper} {a : Act} {w : World} {α : Type} {r : α}
theorem rowOf_spec {K h g} (s : St K h g w) {et : TypeId} {u : AVal} {z : Value} (hu : Rep h g w u z) {e : Sh} {xs : List e.ty} {h' : List ABlk} (hr : rowOf T h et u = some ⟨e, xs, h'⟩) :
    ∃ vs, w.ownsRow 0 et e.size z xs.length vs ∧ (∀ (n : Nat) x (j : Nat) c, xs[n]? = some x → (e.cells x)[j]? = some c → ∃ u, vs[n * e.size + j]? = some u ∧ Rep h g w c u) ∧
      Le K h g w h' g w ∧ St K h' g w ∧ ∀ n, blockOf z = some n → (¬ K n ∧ ¬ g.M n ∧ n < w.heap.size) ∧ ∀ j, alive h' j → blockOf (g.ρ j) ≠ some n := by
  unfold rowOf at hr
  split at hr
  · rename_i i
    split at hr
    · rename_i t' e' xs' hh
      split at hr
      · rename_i ht
        obtain ⟨ht, h0⟩ := ht
        subst ht
        cases hr
        have hi := getD_some (by simp) hh
        obtain ⟨vs, h1, h2⟩ := (rowOk_iff h0).1 (s.blk i _ hi)
        obtain ⟨l, s'⟩ := kill_plain s hi
        have hz := rep_own hu hi
        refine ⟨vs, by rw [hz]; exact h1, h2, l, s', fun n hn => ?_⟩
        rw [hz] at hn
        refine ⟨s.sep i n ⟨_, hi, by simp⟩ hn, fun j hj hjn => ?_⟩
        obtain ⟨b, hb, hd⟩ := hj
        rcases set_get hb with ⟨_, e, _⟩ | ⟨hne, e⟩
        · exact hd e
        · exact hne (s.inj j i n ⟨b, e, hd⟩ ⟨_, hi, by simp⟩ hjn hn)
      · cases hr
    · cases hr
  · split at hr
    · split at hr
      · cases hr
        cases hu
        exact ⟨[], World.ownsRow_nil w 0 et _, fun n x j c hx => by simp at hx, .refl, s, fun n hn => by simp [blockOf] at hn⟩
      · cases hr
    · cases hr
  · cases hr
theorem src_spec {K h g} (s : St K h g w) {y : AVal} {z : Value} (hy : Rep h g w y z) {e : Sh} (h0 : 0 < e.size) {ys : List e.ty} (hr : asRo h y = some ⟨e, ys⟩) :
    ∃ (p : Option Addr) (c : Nat) (news : List Value), z = .slice p ys.length c ∧ news.length = ys.length * e.size ∧ (p = none → ys = [] ∧ c = 0) ∧ (∀ ad, p = some ad → ∀ (j : Nat) u, news[j]? = some u → w.cell? (ad.add j) = some u) ∧
      (∀ (n : Nat) x (j : Nat) c, ys[n]? = some x → (e.cells x)[j]? = some c → ∃ u, news[n * e.size + j]? = some u ∧ Rep h g w c u) ∧ ∀ u ∈ news, u.oneCell' = true := by
  have ones : ∀ (news : List Value), news.length = ys.length * e.size → (∀ (n : Nat) x (j : Nat) c, ys[n]? = some x → (e.cells x)[j]? = some c → ∃ u, news[n * e.size + j]? = some u ∧ Rep h g w c u) → ∀ u ∈ news, u.oneCell' = true := by
    intro news hl hn u hu
    obtain ⟨q, hq, rfl⟩ := List.mem_iff_getElem.1 hu
    have hd : q / e.size < ys.length := by rw [Nat.div_lt_iff_lt_mul h0]; omega
    have hm : q % e.size < (e.cells ys[q / e.size]).length := by rw [Sh.cells_size]; exact Nat.mod_lt _ h0
    obtain ⟨v, hv, hrv⟩ := hn (q / e.size) _ (q % e.size) _ (List.getElem?_eq_getElem hd) (List.getElem?_eq_getElem hm)
    rw [Nat.div_add_mod'] at hv
    rw [List.getElem?_eq_getElem hq] at hv
    cases hv
    exact scalar_one hrv (pure_scalar (Sh.cells_pure e _ _ (List.getElem_mem hm)))
  unfold asRo at hr
  split at hr
  · rename_i d zs
    cases hr
    obtain ⟨p, c, hx, hlc, hm, hpc, hbl⟩ := rep_ro hy
    rcases Nat.eq_zero_or_pos ys.length with hz | hz
    · have : ys = [] := List.eq_nil_of_length_eq_zero hz
      subst this
      exact ⟨p, c, [], hx, by simp, fun hp => ⟨rfl, hpc hp⟩, fun ad _ j u hu => by simp at hu, fun n x j c hx => by simp at hx, fun u hu => by simp at hu⟩
    · obtain ⟨b, n, rfl, hM, us, hc1, hc2⟩ := hbl hz
      have hget : ∀ q, q < ys.length * e.size → ∃ x c, ys[q / e.size]? = some x ∧ (e.cells x)[q % e.size]? = some c := fun q hq => by
        have hd : q / e.size < ys.length := by rw [Nat.div_lt_iff_lt_mul h0]; omega
        have hm : q % e.size < (e.cells ys[q / e.size]).length := by rw [Sh.cells_size]; exact Nat.mod_lt _ h0
        exact ⟨_, _, List.getElem?_eq_getElem hd, List.getElem?_eq_getElem hm⟩
      have hnl : ((List.range (ys.length * e.size)).map fun q => us (q / e.size) (q % e.size)).length = ys.length * e.size := by simp
      have hrep : ∀ (m : Nat) x (j : Nat) c, ys[m]? = some x → (e.cells x)[j]? = some c → ∃ u, ((List.range (ys.length * e.size)).map fun q => us (q / e.size) (q % e.size))[m * e.size + j]? = some u ∧ Rep h g w c u := fun m x j c hx hc => by
        have hj : j < e.size := by have := (List.getElem?_eq_some_iff.1 hc).1; rwa [Sh.cells_size] at this
        have hm' := (List.getElem?_eq_some_iff.1 hx).1
        have hmul : (m + 1) * e.size ≤ ys.length * e.size := Nat.mul_le_mul_right _ hm'
        rw [Nat.add_mul] at hmul
        have e1 : (m * e.size + j) / e.size = m := by rw [Nat.mul_comm, Nat.mul_add_div h0, Nat.div_eq_of_lt hj, Nat.add_zero]
        have e2 : (m * e.size + j) % e.size = j := by rw [Nat.mul_comm, Nat.mul_add_mod, Nat.mod_eq_of_lt hj]
        refine ⟨us m j, ?_, hc2 m x j c hx hc⟩
        rw [List.getElem?_map, List.getElem?_range (by omega)]
        simp [e1, e2]
      refine ⟨_, c, _, hx, hnl, fun hp => (by cases hp), fun ad had j u hu => ?_, hrep, ones _ hnl hrep⟩
      cases had
      rw [List.getElem?_map] at hu
      have hj : j < ys.length * e.size := by
        rcases Nat.lt_or_ge j (ys.length * e.size) with h | h
        · exact h
        · rw [List.getElem?_eq_none (by simpa using h)] at hu; cases hu
      rw [List.getElem?_range hj] at hu
      simp only [Option.map_some, Option.some.injEq] at hu
      subst hu
      obtain ⟨x, c', g1, g2⟩ := hget j hj
      have := hc1 _ x _ c' g1 g2
      rw [Nat.add_assoc, Nat.div_add_mod'] at this
      rw [Addr.add_lit]; exact this
  · rename_i i
    cases hh : h.getD i .dead with
    | dead => rw [hh] at hr; cases hr
    | box wr cs => rw [hh] at hr; cases hr
    | lp => rw [hh] at hr; cases hr
    | free => rw [hh] at hr; cases hr
    | row wr t d zs =>
      rw [hh] at hr
      simp only at hr
      split at hr
      case isFalse => cases hr
      cases hr
      have hi := getD_some (by simp) hh
      obtain ⟨vs, h1, h2⟩ := (rowOk_iff h0).1 (s.blk i _ hi)
      obtain ⟨p, c, hρ, hp⟩ := row_slice s hi h0
      have hz := rep_own hy hi
      refine ⟨p, c, vs, by rw [hz, hρ], h1.1, fun hpn => ?_, fun ad had j u hu => ?_, h2, ones vs h1.1 h2⟩
      · rcases h1.2 with ⟨h3, h4⟩ | ⟨n, cap, cur, h3, _⟩
        · rw [h3] at hρ
          obtain ⟨_, _, e3⟩ := Value.slice.inj hρ
          exact ⟨List.eq_nil_of_length_eq_zero h4, e3.symm⟩
        · rw [h3] at hρ
          obtain ⟨e1, _, _⟩ := Value.slice.inj hρ
          rw [hpn] at e1; cases e1
      · subst had
        rcases h1.2 with ⟨h3, h4⟩ | ⟨n, cap, cur, h3, _⟩
        · rw [h3] at hρ
          obtain ⟨e1, _, _⟩ := Value.slice.inj hρ
          cases e1
        · have hcl := h1.cells (g := n) (by rw [h3]; rfl) j u hu
          rw [h3] at hρ; cases hρ
          exact hcl
  · cases hr
theorem append_run (hT : TabOk P T) (t ty et : TypeId) (hund : T.und t = some (.sl et)) {sz : Nat} (hs : T.size et = sz) (h0 : 0 < sz) (v : Value) (n : Nat) (xs : List Value) (hown : w.ownsRow 0 et sz v n xs)
    (ad : Addr) (m c : Nat) (news : List Value) (hl : news.length = m * sz) (hnews : ∀ (j : Nat) u, news[j]? = some u → w.cell? (ad.add j) = some u) (h1 : ∀ u ∈ news, u.oneCell' = true)
    (z : AVal) (hz : T.zero et = some z) (hzs : z.cells.all AVal.scalar = true ∧ z.cells.length = sz) (hb : T.bytes et ≠ 0) (hbytes : (n + m) * T.bytes et ≤ room) :
    ∃ v' w', (Builtin.append_ #[t, t] ty #[v, .slice (some ad) m c]).run P w = .ok v' w' ∧ w'.ownsRow 0 et sz v' (n + m) (xs ++ news) ∧ w.grownBy w' v.ownBlock ∧ (v'.ownBlock = v.ownBlock ∨ v'.ownBlock = some w.heap.size) := by
  obtain ⟨i, zv, hi, his, hib, hzi, hzv⟩ := tab_zero hT hz
  have ht := und_sl hT hund
  have hr0 : Rep [] ⟨fun _ => Go.undef, fun _ => False⟩ w z zv := by rw [← hzv]; exact rep_value zv
  have hzc := (cells_rep hr0 hzs.1).1
  have h63 : n + m ≤ maxLen := by
    have : n + m ≤ (n + m) * T.bytes et := Nat.le_mul_of_pos_right _ (Nat.pos_of_ne_zero hb)
    simp only [room] at hbytes; simp only [maxLen]; omega
  obtain ⟨v', w', hr, h2, h3, h4⟩ := run_append_own (P := P) w 0 t ty et i zv sz (T.bytes et) ht hi hzi (by rw [his, hs]) hib (by rw [hzc, hzs.2]) h0 v n xs hown ad m c news hl hnews h1 h63 hbytes (Nat.zero_le _)
  refine ⟨v', w', hr, h2, h3, ?_⟩
  have hsz : i.size = sz := by rw [his, hs]
  have hmax : ((n + m : Nat) : Int) ≤ 9223372036854775807 := by simp only [maxLen] at h63; omega
  rcases hown.2 with ⟨rfl, rfl⟩ | ⟨g, cap, cur, rfl, hbg, hg, hnc, hcm, hcs, htake⟩
  · by_cases hm : m = 0
    · left
      rw [h4.2 ⟨rfl, hm⟩]
    · right
      have hx : xs = [] := List.eq_nil_of_length_eq_zero (by simpa using hown.1)
      subst hx
      have := run_append_nil (P := P) w t ty et i zv ht hi hzi ad m c news (by rw [hsz]; exact hl) hnews (by omega) (by omega) (by rw [hib]; have hb := hbytes; simp only [Nat.zero_add, room] at hb; omega)
      rw [this] at hr
      cases hr; rfl
  · by_cases hroom : n + m ≤ cap
    · left
      have hfit : n * i.size + news.length ≤ cur.size := by rw [hl, hcs, hsz, ← Nat.add_mul]; exact Nat.mul_le_mul_right _ hroom
      have := run_append_room (P := P) w t ty et i ht hi g n cap cur hg ad m c news (by rw [hsz]; exact hl) hnews h1 hroom hfit
      rw [this] at hr
      cases hr; rfl
    · right
      have holds : ∀ j u, xs[j]? = some u → w.cell? ((⟨g, 0, none⟩ : Addr).add j) = some u := hown.cells (g := g) rfl
      have := run_append_grow (P := P) w t ty et i zv ht hi hzi ⟨g, 0, none⟩ n cap xs (by rw [hsz]; exact hown.1) holds ad m c news (by rw [hsz]; exact hl) hnews (by omega) hmax (growslice_fits (by omega) (by rw [hib]; exact hbytes))
      rw [this] at hr
      cases hr; rfl
theorem append_sound {K} (hT : TabOk P T) (st : AS) {g : Gh} (s : St K st.heap g w) (b : Builtin) (hb : b = .append) (t : TypeId) (args : Array Operand) (ts : Array TypeId) (x y : Operand) (ha : args.toList = [x, y]) (hts : ts.toList = [t, t])
    (ho : o.op = .call { callee := .builtin b, args, argTypes := ts }) (u v : AVal) (hu : Rep st.heap g w u (a.eval x)) (hv : Rep st.heap g w v (a.eval y))
    (k : AVal → AS → Option α) (hk : evAppend real T t u v st.heap (fun v h => k v { st with heap := h }) = some r) : Good K P o a st g w k r := by
  subst hb
  obtain ⟨args⟩ := args
  obtain ⟨ts⟩ := ts
  simp only at ha hts
  subst ha; subst hts
  unfold evAppend at hk
  split at hk
  · rename_i et hund
    split at hk
    · cases hk
    · rename_i hbne
      split at hk
      · cases hk
      · rename_i e xs h' hrow
        obtain ⟨vs, hown, hrep, l0, s0, hz⟩ := rowOf_spec s hu hrow
        split at hk
        · rename_i hc
          obtain ⟨hsz, h0⟩ := hc.1
          have hexec : ∀ v' w', (Builtin.append_ #[t, t] o.type #[a.eval x, a.eval y]).run P w = .ok v' w' → (execOp a.eval o).run P w = .ok (.value v') w' := fun v' w' h => by
            simp [execOp, ho, resolve, invoke, builtin, h]
          split at hk
          · -- nothing is appended
            have hy : a.eval y = .slice none 0 0 := rep_nils hv
            obtain ⟨i, hi, his, _⟩ := tab_size hT (t := et) (by omega)
            have hrun := run_append_owned_none (P := P) (w := w) 0 t o.type et i e.size (und_sl hT hund) hi (a.eval x) xs.length vs hown
            have l1 : Le K h' g w (h' ++ [.row true et e xs]) (g.at h'.length (a.eval x)) w := le_grow s0 _ _ (Below.refl _ _)
            have s1 := s0.grow (.row true et e xs) (a.eval x) l1 (fun _ _ _ _ => rfl) ((rowOk_iff h0).2 ⟨vs, by rw [g.at_same]; exact hown, fun n z j c hx hc => let ⟨q, h1, h2⟩ := hrep n z j c hx hc; ⟨q, h1, (h2.mono l0).mono l1⟩⟩) hz
            refine ⟨_, _, _, _, _, hk, rfl, s1, l0.trans l1, .own _ _ (Here.of (List.getElem?_concat_length ..) (by simp)) ?_ fun wr t' e' xs' hx => (g.at_same _ _).symm, hexec _ _ (by rw [hy]; exact hrun)⟩
            rcases hown.2 with ⟨h1, _⟩ | ⟨_, _, _, h1, _⟩ <;> rw [h1] <;> rfl
          · split at hk
            · cases hk
            · rename_i d ys hsrc
              split at hk
              · rename_i hd
                subst hd
                obtain ⟨p, c, news, hy, hnl, hpn, hnews, hnrep, hones⟩ := src_spec s hv h0 hsrc
                simp only [real] at hk
                split at hk
                · rename_i hroom
                  obtain ⟨zz, hzz⟩ : ∃ z, T.zero et = some z := Option.isSome_iff_exists.1 hc.2.1
                  have hzs := hc.2.2
                  rw [hzz] at hzs
                  have main : ∃ v' w', (Builtin.append_ #[t, t] o.type #[a.eval x, a.eval y]).run P w = .ok v' w' ∧ w'.ownsRow 0 et d.size v' (xs.length + ys.length) (vs ++ news) ∧ w.grownBy w' (a.eval x).ownBlock ∧ (v'.ownBlock = (a.eval x).ownBlock ∨ v'.ownBlock = some w.heap.size) := by
                    cases p with
                    | none =>
                      obtain ⟨e1, e2⟩ := hpn rfl
                      subst e1; subst e2
                      have : news = [] := List.eq_nil_of_length_eq_zero (by simpa using hnl)
                      subst this
                      obtain ⟨i, hi, his, _⟩ := tab_size hT (t := et) (by omega)
                      have hrun := run_append_owned_none (P := P) (w := w) 0 t o.type et i d.size (und_sl hT hund) hi (a.eval x) xs.length vs hown
                      refine ⟨_, _, by rw [hy]; exact hrun, by simpa using hown, ⟨rfl, rfl, rfl, Nat.le_refl _, fun _ _ _ => rfl⟩, .inl rfl⟩
                    | some ad =>
                      rw [hy]
                      exact append_run hT t o.type et hund hsz h0 (a.eval x) xs.length vs hown ad ys.length c news hnl (hnews ad rfl) hones zz hzz (by simpa using hzs) hbne hroom
                  obtain ⟨v', w', hrun, hown', hgr, hblk⟩ := main
                  have hown0 : ∀ n, blockOf (a.eval x) = some n ↔ (a.eval x).ownBlock = some n := fun n => by
                    rcases hown.2 with ⟨h1, _⟩ | ⟨_, _, _, h1, _⟩ <;> rw [h1] <;> simp [blockOf, Value.ownBlock]
                  have hown1 : ∀ n, blockOf v' = some n ↔ v'.ownBlock = some n := fun n => by
                    rcases hown'.2 with ⟨h1, _⟩ | ⟨_, _, _, h1, _⟩ <;> rw [h1] <;> simp [blockOf, Value.ownBlock]
                  have hkeep : ∀ b, b < w.heap.size → blockOf (a.eval x) ≠ some b → w'.heap[b]? = w.heap[b]? := fun b hb hne =>
                    hgr.block b hb fun e => hne ((hown0 b).2 e.symm)
                  have l1 : Le K h' g w (h' ++ [.row true et d (xs ++ ys)]) (g.at h'.length v') w' := {
                    len := by simp
                    here := fun i ⟨b, hb, hn⟩ => ⟨b, by rw [List.getElem?_append_left (List.getElem?_eq_some_iff.1 hb).1]; exact hb, hn⟩
                    m := fun _ h => h
                    new := fun _ h => .inl h
                    mw := fun b hb => hkeep b (s.low b hb) fun e => (hz b e).1.2.1 hb
                    k := fun b hb => hkeep b (s.klow b hb) fun e => (hz b e).1.1 hb
                    box := fun i wr cs' hi h' => by
                      rw [List.getElem?_append_left hi.lt] at h'
                      replace hi := hi.lt
                      exact ⟨wr, cs', h', rfl, g.at_other v' (by omega)⟩
                    row := fun i wr t e xs' hi h' => by
                      rw [List.getElem?_append_left hi.lt] at h'
                      replace hi := hi.lt
                      exact ⟨wr, xs', h', fun _ => rfl, g.at_other v' (by omega)⟩
                    lp := fun i st pend ts ps aw bo hi h' => by
                      rw [List.getElem?_append_left hi.lt] at h'
                      replace hi := hi.lt
                      exact ⟨st, pend, h', g.at_other v' (by omega)⟩
                    lockb := fun i cs h' => by rw [List.getElem?_append_left (List.getElem?_eq_some_iff.1 h').1]; exact h'
                    lockr := fun i t e xs h' => by rw [List.getElem?_append_left (List.getElem?_eq_some_iff.1 h').1]; exact h'
                    os := hgr.os
                    tape := hgr.tape
                    output := hgr.output
                    size := hgr.size }
                  have s1 := s0.grow (.row true et d (xs ++ ys)) v' l1
                    (fun i n hi hn => hkeep n (s0.sep i n hi hn).2.2 fun e => (hz n e).2 i hi hn)
                    ((rowOk_iff h0).2 ⟨vs ++ news, by rw [g.at_same, List.length_append]; exact hown', fun n z j c hx hc => by
                      have hj : j < d.size := by have := (List.getElem?_eq_some_iff.1 hc).1; rwa [Sh.cells_size] at this
                      rcases Nat.lt_or_ge n xs.length with hn | hn
                      · rw [List.getElem?_append_left hn] at hx
                        obtain ⟨q, h1, h2⟩ := hrep n z j c hx hc
                        exact ⟨q, by rw [List.getElem?_append_left (List.getElem?_eq_some_iff.1 h1).1]; exact h1, (h2.mono l0).mono l1⟩
                      · rw [List.getElem?_append_right hn] at hx
                        obtain ⟨q, h1, h2⟩ := hnrep _ z j c hx hc
                        refine ⟨q, ?_, (h2.mono l0).mono l1⟩
                        have hmul : xs.length * d.size ≤ n * d.size := Nat.mul_le_mul_right _ hn
                        rw [List.getElem?_append_right (by rw [hown.1]; omega), hown.1, ← h1]
                        congr 1
                        rw [Nat.sub_mul]; omega⟩)
                    (fun n hn => by
                      rcases hblk with hb | hb
                      · have hn0 := (hown0 n).2 (by rw [← hb]; exact (hown1 n).1 hn)
                        exact ⟨⟨(hz n hn0).1.1, (hz n hn0).1.2.1, Nat.lt_of_lt_of_le (hz n hn0).1.2.2 hgr.size⟩, (hz n hn0).2⟩
                      · have : n = w.heap.size := by
                          have := (hown1 n).1 hn; rw [hb] at this; cases this; rfl
                        subst this
                        refine ⟨⟨fun hk => Nat.lt_irrefl _ (s.klow _ hk), fun hm => Nat.lt_irrefl _ (s.low _ hm), ?_⟩, fun i hi hin => Nat.lt_irrefl _ (s0.sep i _ hi hin).2.2⟩
                        exact (hown'.lt _ ((hown1 _).1 hn)).2)
                  refine ⟨_, _, _, _, _, hk, rfl, s1, l0.trans l1, .own _ _ (Here.of (List.getElem?_concat_length ..) (by simp)) ?_ fun wr t' e' xs' hx => (g.at_same _ _).symm, hexec _ _ hrun⟩
                  rcases hown'.2 with ⟨h1, _⟩ | ⟨_, _, _, h1, _⟩ <;> rw [h1] <;> rfl
                · cases hk
              · cases hk
        · cases hk
  · cases hk
end
end Go.Proofs.Ytcbfmkfmdcabmaa

namespace Go.Proofs.Ytcbfmkfmdcabmaa
open Go.RowKit
def CPost (M : Nat → Prop) (w : World) (out : AOut) (e : Ending) (w' : World) : Prop :=
  ∃ M' : Nat → Prop, (∀ b, M b → M' b) ∧ (∀ b, M' b → M b ∨ w.heap.size ≤ b) ∧ (∀ b, M' b → b < w'.heap.size) ∧ Below w.heap.size w w' ∧
    match out with
    | .ret v => ∃ x, e = .returned x ∧ Rep [] ⟨fun _ => Go.undef, M'⟩ w' v x
    | .pan v => ∃ x, e = .panicked [{ v := x, recovered := false }] ∧ Rep [] ⟨fun _ => Go.undef, M'⟩ w' v x
structure FspOk (P : Program) (f : FuncId) (S : Fsp) : Prop where
  enter : ∀ args w, (callFunc f args).run P w = .ok (.enter f args) w
  nat : ∀ (α : Type) args (k : AOut → Option α), S α args k = (S AOut args some).bind k
  calls : ∀ args out, S AOut args some = some out → ∀ (M : Nat → Prop) w (cargs : Array Value), (∀ b, M b → b < w.heap.size) → args.length = cargs.size →
    (∀ (j : Nat) c x, args[j]? = some c → cargs[j]? = some x → Rep [] ⟨fun _ => Go.undef, M⟩ w c x) → Calls P f cargs w (CPost M w out)
def CvPost (K : Nat → Prop) (h : List ABlk) (g : Gh) (w : World) (h1 : List ABlk) (x : AExit) (u : AVal) (e : Ending) (w' : World) : Prop :=
  ∃ g', St K h1 g' w' ∧ Le K h g w h1 g' w' ∧
    match x with
    | .normal => ∃ z, e = .returned z ∧ Rep h1 g' w' u z
    | .pan v => ∃ z, e = .panicked [{ v := z, recovered := false }] ∧ Rep h1 g' w' v z
    | _ => False
def CallV (P : Program) (fv : Value) (cargs : Array Value) (w : World) (R : Ending → World → Prop) : Prop :=
  (∃ f caps, fv = .func (.func f) #[] caps ∧ (∀ w, (callFunc f (cargs ++ caps)).run P w = .ok (.enter f (cargs ++ caps)) w) ∧ Calls P f (cargs ++ caps) w R) ∨
  (∃ l f tmps aw bo, fv = .func (.yield l) #[] #[] ∧ (Instr.yield l cargs).run P w = .ok (.round l f tmps aw bo) w ∧ RoundIn (FW none) 0 P l f tmps aw bo w R) ∨
  (∃ f caps v, fv = .func (.func f) #[] caps ∧ (∃ x, cargs[0]? = some x ∧ ∀ a b c, x ≠ .func a b c) ∧ (callFunc f (cargs ++ caps)).run P w = .ok (.value v) w ∧ R (.returned v) w)
def tripE (x : AExit) (v : AVal) (h : List ABlk) : Option (AExit × AVal × List ABlk) := some (x, v, h)
structure CvOk (P : Program) (cv : Cv) : Prop where
  nat : ∀ (α : Type) v args h (k : AExit → AVal → List ABlk → Option α), cv α v args h k = (cv _ v args h tripE).bind fun p => k p.1 p.2.1 p.2.2
  ok : ∀ v args h x u h1, cv _ v args h tripE = some (x, u, h1) → ∀ (K : Nat → Prop) g w (fv : Value) (cargs : Array Value), St K h g w → Rep h g w v fv → args.length = cargs.size →
    (∀ (j : Nat) c z, args[j]? = some c → cargs[j]? = some z → Rep h g w c z) → CallV P fv cargs w (CvPost K h g w h1 x u)
structure EnvOk (P : Program) (env : Env) : Prop where
  fs : ∀ f S, env.fs f = some S → FspOk P f S
  cv : CvOk P env.cv
theorem rep_nil {g w} {v : AVal} {x : Value} (r : Rep [] g w v x) {h : List ABlk} {g' : Gh} (hM : ∀ b, g.M b → g'.M b) : Rep h g' w v x := by
  induction r with
  | any v => exact .any v
  | undef => exact .undef
  | int k n => exact .int k n
  | bool b => exact .bool b
  | str s => exact .str s
  | agg cs arr hl _ ih => exact .agg cs arr hl ih
  | nils => exact .nils
  | ro0 e p c hc hc' => exact .ro0 e p c hc hc'
  | ro1 e xs b o c us h0 h1 h2 hm hc _ ih => exact .ro1 e xs b o c us h0 h1 h2 (hM b hm) hc ih
  | rp cs b o us hm hc _ ih => exact .rp cs b o us (hM b hm) hc ih
  | own i v hi => exact absurd hi.lt (by simp)
  | op i off v hi => exact absurd hi.lt (by simp)
  | oe i ix off v hi => exact absurd hi.lt (by simp)
  | fn f caps arr hl _ ih => exact .fn f caps arr hl ih
  | tup cs arr hl _ ih => exact .tup cs arr hl ih
  | ifc t c x _ ih => exact .ifc t c x ih
  | nilif => exact .nilif
  | nilfn => exact .nilfn
  | nilmp => exact .nilmp
  | nilpt => exact .nilpt
  | yld i v hi => exact absurd hi.lt (by simp)
theorem rep_flat0 {h g w} {v : AVal} {x : Value} (r : Rep h g w v x) (hf : v.flat0 = true) {h' g' w'} : Rep h' g' w' v x := by
  cases r <;> first | (simp [AVal.flat0] at hf; done) | constructor
theorem rep_flat1 {h g w} {v : AVal} {x : Value} (r : Rep h g w v x) (hf : v.flat1 = true) {h' g' w'} : Rep h' g' w' v x := by
  unfold AVal.flat1 at hf
  split at hf
  · rename_i cs
    cases r with
    | agg _ arr hl hr => exact .agg _ _ hl fun j c x hc hx => rep_flat0 (hr j c x hc hx) (List.all_eq_true.1 hf c (List.mem_of_getElem? hc))
  · exact rep_flat0 r hf
theorem rep_flat2 {h g w} {v : AVal} {x : Value} (r : Rep h g w v x) (hf : v.flat2 = true) {h' g' w'} : Rep h' g' w' v x := by
  unfold AVal.flat2 at hf
  split at hf
  · rename_i cs
    cases r with
    | tup _ arr hl hr => exact .tup _ _ hl fun j c x hc hx => rep_flat1 (hr j c x hc hx) (List.all_eq_true.1 hf c (List.mem_of_getElem? hc))
  · rename_i t v
    cases r with
    | ifc _ _ y hr => exact .ifc t v y (rep_flat1 hr hf)
  · exact rep_flat1 r hf
theorem le_below {K h g w w'} (s : St K h g w) (hb : Below w.heap.size w w') (M' : Nat → Prop) (h1 : ∀ b, g.M b → M' b) (h2 : ∀ b, M' b → g.M b ∨ w.heap.size ≤ b) : Le K h g w h ⟨g.ρ, M'⟩ w' where
  len := Nat.le_refl _
  here := fun _ h => h
  m := h1
  new := fun b hb' => (h2 b hb').imp id fun h hk => Nat.lt_irrefl _ (Nat.lt_of_lt_of_le (s.klow b hk) h)
  mw := fun b hb' => hb.block b (s.low b hb')
  k := fun b hb' => hb.block b (s.klow b hb')
  box := fun i wr cs' _ h' => ⟨wr, cs', h', rfl, rfl⟩
  row := fun i wr t e xs' _ h' => ⟨wr, xs', h', fun _ => rfl, rfl⟩
  lp := fun _ st pend _ _ _ _ _ h => ⟨st, pend, h, rfl⟩
  lockb := fun _ _ h => h
  lockr := fun _ _ _ _ h => h
  os := hb.os
  tape := hb.tape
  output := hb.output
  size := hb.size
theorem St.below {K h g w w'} (s : St K h g w) (hb : Below w.heap.size w w') (M' : Nat → Prop) (h1 : ∀ b, g.M b → M' b) (h2 : ∀ b, M' b → g.M b ∨ w.heap.size ≤ b) (h3 : ∀ b, M' b → b < w'.heap.size) : St K h ⟨g.ρ, M'⟩ w' where
  blk := fun i b hb' => (s.blk i b hb').mono (le_below s hb M' h1 h2) rfl fun n hd hn => hb.block n (s.sep i n ⟨b, hb', hd⟩ hn).2.2
  inj := s.inj
  sep := fun i n ai hn => by
    obtain ⟨a, b, c⟩ := s.sep i n ai hn
    exact ⟨a, fun hm => (h2 n hm).elim b fun h => Nat.lt_irrefl _ (Nat.lt_of_lt_of_le c h), Nat.lt_of_lt_of_le c hb.size⟩
  low := h3
  klow := fun b hk => Nat.lt_of_lt_of_le (s.klow b hk) hb.size
theorem peek0_alive {h : List ABlk} {v u : AVal} (hp : peek0 h v = some u) : ∀ i ∈ v.named0, alive h i := by
  intro i hi
  unfold AVal.named0 at hi
  split at hi
  · rename_i j
    simp only [List.mem_singleton] at hi
    subst hi
    unfold peek0 at hp
    simp only at hp
    split at hp
    · rename_i wr t e xs hh
      exact ⟨_, getD_some (by simp) hh, by simp⟩
    · cases hp
  · simp at hi
theorem peek1_alive {h : List ABlk} {v u : AVal} (hp : peek1 h v = some u) : ∀ i ∈ v.named1, alive h i := by
  intro i hi
  have inner : ∀ (cs us : List AVal), peekL (peek0 h) cs = some us → i ∈ cs.flatMap AVal.named0 → alive h i := by
    intro cs us hp hi
    obtain ⟨c, hc, hi⟩ := List.mem_flatMap.1 hi
    obtain ⟨j, hj, rfl⟩ := List.mem_iff_getElem.1 hc
    obtain ⟨h1, h2⟩ := peekL_get hp
    have hju : j < us.length := by omega
    exact peek0_alive (h2 j _ _ (List.getElem?_eq_getElem hj) (List.getElem?_eq_getElem hju)) i hi
  have innerC : ∀ (cs us : List AVal), peekL (peekC h) cs = some us → i ∈ cs.flatMap AVal.named0 → alive h i := by
    intro cs us hp hi
    obtain ⟨c, hc, hi⟩ := List.mem_flatMap.1 hi
    obtain ⟨j, hj, rfl⟩ := List.mem_iff_getElem.1 hc
    obtain ⟨h1, h2⟩ := peekL_get hp
    have hju : j < us.length := by omega
    have hq := h2 j _ _ (List.getElem?_eq_getElem hj) (List.getElem?_eq_getElem hju)
    unfold peekC at hq
    split at hq
    · rename_i cs' he
      rw [he] at hi; simp [AVal.named0] at hi
    · exact peek0_alive hq i hi
  unfold peek1 at hp
  split at hp
  · rename_i cs
    split at hp
    · rename_i us hus
      exact inner cs us hus hi
    · cases hp
  · rename_i f cs
    split at hp
    · rename_i us hus
      exact innerC cs us hus hi
    · cases hp
  · rename_i v h1 h2
    refine peek0_alive hp i ?_
    unfold AVal.named1 at hi
    split at hi
    · exact absurd rfl (h1 _)
    · exact absurd rfl (h2 _ _)
    · exact hi
theorem peekP_alive {h : List ABlk} {v u : AVal} (hp : peekP h v = some u) : ∀ i ∈ v.namedP, alive h i := by
  intro i hi
  unfold peekP at hp
  split at hp
  · rename_i j off
    simp only [AVal.namedP, List.mem_singleton] at hi
    subst hi
    split at hp
    · rename_i wr cs hh
      exact ⟨_, getD_some (by simp) hh, by simp⟩
    · cases hp
  · rename_i v h1
    refine peek1_alive hp i ?_
    unfold AVal.namedP at hi
    split at hi
    · exact absurd rfl (h1 _ _)
    · exact hi
structure OpCont {α : Type} (K : Nat → Prop) (P : Program) (o : Oper) (a : Act) (st : AS) (g : Gh) (w : World) (k : AExit → AVal → AS → Option α) (r : α) (next : Act → World → Prop) (Q : Exit → Act → World → Prop) : Prop where
  on : ∀ v st' g' w' x, k .normal v st' = some r → st'.tmps = st.tmps → St K st'.heap g' w' → Le K st.heap g w st'.heap g' w' → Rep st'.heap g' w' v x → next (a.put o.dst x) w'
  pan : ∀ v u st' g' w' x, k (.pan v) u st' = some r → st'.tmps = st.tmps → St K st'.heap g' w' → Le K st.heap g w st'.heap g' w' → Rep st'.heap g' w' v x → Q (.panic [{ v := x, recovered := false }]) a w'
theorem evPure_nat {P : Program} {f : FuncId} {S : Fsp} (hok : FspOk P f S) {α : Type} (dr fz : Bool) (args : List AVal) (h : List ABlk) (k : AExit → AVal → List ABlk → Option α) :
    evPure S dr fz args h k = (evPure S dr fz args h tripE).bind fun p => k p.1 p.2.1 p.2.2 := by
  unfold evPure
  split
  · rfl
  · rename_i aw _
    rw [hok.nat α, hok.nat (AExit × AVal × List ABlk)]
    cases S AOut aw some with
    | none => rfl
    | some out =>
      simp only [Option.bind_some]
      cases out with
      | ret v =>
        simp only
        split
        · rfl
        · cases (dr && !(args.flatMap AVal.namedP).isEmpty)
          · simp only [cond_false]
            split <;> rfl
          · rfl
      | pan v =>
        simp only
        cases (!v.flat2) <;> rfl
theorem pure_calls {P : Program} {K : Nat → Prop} {g : Gh} {w : World} {h : List ABlk} {fid : FuncId} {S : Fsp} (hok : FspOk P fid S) (s : St K h g w) (dr fz : Bool) (L : List AVal) (cargs : Array Value) (hlen : L.length = cargs.size)
    (hargs : ∀ (j : Nat) c x, L[j]? = some c → cargs[j]? = some x → Rep h g w c x) {x : AExit} {u : AVal} {h1 : List ABlk} (hk : evPure S dr fz L h tripE = some (x, u, h1)) : Calls P fid cargs w (CvPost K h g w h1 x u) := by
  unfold evPure at hk
  split at hk
  · cases hk
  · rename_i aw has
    rw [hok.nat] at hk
    cases hout : S AOut aw some with
    | none => rw [hout] at hk; cases hk
    | some out =>
      rw [hout] at hk
      simp only [Option.bind_some] at hk
      obtain ⟨hpl, hpg⟩ := peekL_get has
      have halive : ∀ i ∈ L.flatMap AVal.namedP, alive h i := fun i hi => by
        obtain ⟨v, hv, hi⟩ := List.mem_flatMap.1 hi
        obtain ⟨j, hj, rfl⟩ := List.mem_iff_getElem.1 hv
        exact peekP_alive (hpg j _ _ (List.getElem?_eq_getElem hj) (List.getElem?_eq_getElem (by omega))) i hi
      have hM1 : ∀ b, (g.plus (L.flatMap AVal.namedP)).M b → b < w.heap.size := fun b hb => by
        rcases hb with hb | ⟨i, hi, hb⟩
        · exact s.low b hb
        · exact (s.sep i b (halive i hi) hb).2.2
      have hrep : ∀ (j : Nat) c x, aw[j]? = some c → cargs[j]? = some x → Rep [] ⟨fun _ => Go.undef, (g.plus (L.flatMap AVal.namedP)).M⟩ w c x := fun j c x hc hx => by
        have hj : j < L.length := by have := (List.getElem?_eq_some_iff.1 hc).1; omega
        have hcs := List.getElem?_eq_getElem hj
        exact peekP_rep (g' := ⟨fun _ => Go.undef, (g.plus (L.flatMap AVal.namedP)).M⟩) s (hargs j _ x hcs hx) (hpg j _ c hcs hc) (fun b hb => Or.inl hb) fun i hi b hb => Or.inr ⟨i, List.mem_flatMap.2 ⟨_, List.getElem_mem hj, hi⟩, hb⟩
      have hcall := hok.calls aw out hout _ w cargs hM1 (by omega) hrep
      refine hcall.mono fun e w' hp => ?_
      obtain ⟨M', m1, m2, m3, hb, hout'⟩ := hp
      cases out with
      | ret v =>
        obtain ⟨z, rfl, hx⟩ := hout'
        simp only at hk
        split at hk
        · rename_i hfl
          cases hk
          have s' := s.below hb g.M (fun _ h => h) (fun b h => .inl h) (fun b h => Nat.lt_of_lt_of_le (s.low b h) hb.size)
          exact ⟨_, s', le_below s hb g.M (fun _ h => h) fun b h => .inl h, z, rfl, rep_flat2 hx hfl⟩
        · cases hd : (dr && !(L.flatMap AVal.namedP).isEmpty)
          · rw [hd] at hk
            simp only [cond_false] at hk
            split at hk
            · rename_i h' hkill
              cases hk
              obtain ⟨l1, s1⟩ := kill_z s hkill
              have hsame : ∀ b, (g.plus (dedup (L.flatMap AVal.namedP))).M b ↔ (g.plus (L.flatMap AVal.namedP)).M b := fun b => by
                simp only [Gh.plus, mem_dedup]
              have s2 := s1.below hb M' (fun b h => m1 b ((hsame b).1 h)) (fun b h => (m2 b h).imp (hsame b).2 id) m3
              have l2 := le_below s1 hb M' (fun b h => m1 b ((hsame b).1 h)) (fun b h => (m2 b h).imp (hsame b).2 id)
              exact ⟨_, s2, l1.trans l2, z, rfl, rep_nil hx fun b h => h⟩
            · cases hk
          · rw [hd] at hk; cases hk
      | pan v =>
        obtain ⟨z, rfl, hx⟩ := hout'
        simp only at hk
        cases hd : (!v.flat2)
        · rw [hd] at hk
          simp only [cond_false] at hk
          cases hk
          have hfl : v.flat2 = true := by
            simpa using hd
          have s' := s.below hb g.M (fun _ h => h) (fun b h => .inl h) (fun b h => Nat.lt_of_lt_of_le (s.low b h) hb.size)
          exact ⟨_, s', le_below s hb g.M (fun _ h => h) fun b h => .inl h, z, rfl, rep_flat2 hx hfl⟩
        · rw [hd] at hk; cases hk
section
variable {ro : Option Nat} {P : Program} {T : Tab} {env : Env} {o : Oper} {a : Act} {w : World} {α : Type} {r : α} {K : Nat → Prop} {st : AS} {g : Gh} {k : AExit → AVal → AS → Option α} {next : Act → World → Prop} {Q : Exit → Act → World → Prop}
theorem Good.wp (h : Good K P o a st g w (fun v s => k .normal v s) r) (c : OpCont K P o a st g w k r next Q) : o.wpIn (FW ro) 0 P a w next Q := by
  obtain ⟨v, st', g', w', z, h1, h2, h3, h4, h5, h6⟩ := h
  exact wp_value h6 (c.on v st' g' w' z h1 h2 h3 h4 h5)
theorem same_wp (s : St K st.heap g w) (c : OpCont K P o a st g w k r next Q) {v : AVal} {z : Value} (hk : k .normal v st = some r) (hr : Rep st.heap g w v z) (hrun : (execOp a.eval o).run P w = .ok (.value z) w) : o.wpIn (FW ro) 0 P a w next Q :=
  wp_value hrun (c.on v st g w z hk rfl s .refl hr)
theorem OpCont.call (c : OpCont K P o a st g w k r next Q) {x : AExit} {u : AVal} {h1 : List ABlk} (hk : k x u { st with heap := h1 } = some r) {e : Ending} {w' : World} (h : CvPost K st.heap g w h1 x u e w') :
    (match (generalizing := false) e, w' with
      | .returned v, w'' => next (a.put o.dst v) w''
      | .panicked chain, w'' => Q (.panic chain) a w''
      | .outgrown, _ => LetsOut Q) := by
  obtain ⟨g', h2, h3, h4⟩ := h
  cases x with
  | normal =>
    obtain ⟨z, rfl, hz⟩ := h4
    exact c.on u _ g' w' z hk rfl h2 h3 hz
  | pan v =>
    obtain ⟨z, rfl, hz⟩ := h4
    exact c.pan v u _ g' w' z hk rfl h2 h3 hz
  | exit i => exact h4.elim
  | ret => exact h4.elim
theorem callV_wp (c : OpCont K P o a st g w k r next Q) (f : Operand) (args : Array Operand) (ts : Array TypeId) (ho : o.op = .call { callee := .value f, args, argTypes := ts }) {x : AExit} {u : AVal} {h1 : List ABlk}
    (hk : k x u { st with heap := h1 } = some r) (h : CallV P (a.eval f) (args.map a.eval) w (CvPost K st.heap g w h1 x u)) : o.wpIn (FW ro) 0 P a w next Q := by
  refine ⟨fun _ _ => trivial, ?_⟩
  rcases h with ⟨fid, caps, hfv, hen, hc⟩ | ⟨l, fid, tmps, aw, bo, hfv, hy, hc⟩ | ⟨fid, caps, v, hfv, _, hen, hc⟩
  · have hrun : (execOp a.eval o).run P w = .ok (.enter fid (args.map a.eval ++ caps)) w := by
      simp [execOp, ho, resolve, hfv, Deferred.ofValue, invoke, hen]
    rw [semAt_of hrun (fun d w' e => by cases e) (fun d c w' _ e => by cases e), Oper.uponIn_enter]
    exact ⟨fun h => by simp [FW] at h, (callsIn_of hc).mono fun e w' hp => c.call hk hp⟩
  · have hrun : (execOp a.eval o).run P w = .ok (.round l fid tmps aw bo) w := by
      simp [execOp, ho, resolve, hfv, Deferred.ofValue, invoke, hy]
    rw [semAt_of hrun (fun d w' e => by cases e) (fun d c w' _ e => by cases e), Oper.uponIn_round]
    exact ⟨fun h => by simp [FW] at h, RoundIn.mono (F := FW ro) hc fun e w' hp => c.call hk hp⟩
  · have hrun : (execOp a.eval o).run P w = .ok (.value v) w := by
      simp [execOp, ho, resolve, hfv, Deferred.ofValue, invoke, hen]
    exact (wp_value (P := P) (o := o) hrun (c.call hk hc)).2
theorem args_rep (htr : TRep st.heap g w st.tmps a.tmps) (args : Array Operand) : (args.toList.map st.ev).length = (args.map a.eval).size ∧ ∀ (j : Nat) c x, (args.toList.map st.ev)[j]? = some c → (args.map a.eval)[j]? = some x → Rep st.heap g w c x :=
  ⟨by simp, fun j c x hc hx => ops_rep htr args.toList j c x hc (by simpa using hx)⟩
theorem yld_wp (hE : EnvOk P env) (s : St K st.heap g w) (htr : TRep st.heap g w st.tmps a.tmps) (f : Operand) (args : Array Operand) (ts : Array TypeId) (ho : o.op = .call { callee := .value f, args, argTypes := ts })
    (v : AVal) (hf : st.ev f = v) (hk : env.cv α v (args.toList.map st.ev) st.heap (fun x v h => k x v { st with heap := h }) = some r) (c : OpCont K P o a st g w k r next Q) : o.wpIn (FW ro) 0 P a w next Q := by
  rw [hE.cv.nat] at hk
  cases hq : env.cv _ v (args.toList.map st.ev) st.heap tripE with
  | none => rw [hq] at hk; cases hk
  | some p =>
    obtain ⟨x, u, h1⟩ := p
    rw [hq] at hk
    obtain ⟨e1, e2⟩ := args_rep htr args
    have hv := htr.ev f
    rw [hf] at hv
    exact callV_wp c f args ts ho hk (hE.cv.ok v _ _ x u h1 hq K g w (a.eval f) _ s hv e1 e2)
theorem call_wp (hE : EnvOk P env) (s : St K st.heap g w) (htr : TRep st.heap g w st.tmps a.tmps) (dr : Bool) (f : Operand) (args : Array Operand) (ts : Array TypeId) (ho : o.op = .call { callee := .value f, args, argTypes := ts })
    (fid : FuncId) (caps : List AVal) (hf : st.ev f = .fn fid caps) (hk : evCall env dr fid caps (args.toList.map st.ev) st.heap (fun x v h => k x v { st with heap := h }) = some r) (c : OpCont K P o a st g w k r next Q) : o.wpIn (FW ro) 0 P a w next Q := by
  unfold evCall at hk
  split at hk
  · cases hd : (dr && !env.few)
    · rw [hd] at hk; exact yld_wp hE s htr f args ts ho _ hf hk c
    · rw [hd] at hk; cases hk
  · rename_i S hS
    have hok := hE.fs fid S hS
    cases hin : (!dr && env.inn fid)
    case true => rw [hin] at hk; exact yld_wp hE s htr f args ts ho _ hf hk c
    rw [hin, cond_false] at hk
    rw [evPure_nat hok] at hk
    cases hq : evPure S dr env.frz (args.toList.map st.ev ++ caps) st.heap tripE with
    | none => rw [hq] at hk; cases hk
    | some p =>
      obtain ⟨x, u, h1⟩ := p
      rw [hq] at hk
      have hfr := htr.ev f
      rw [hf] at hfr
      obtain ⟨carr, hfv, hcl, hcr⟩ : ∃ arr, a.eval f = .func (.func fid) #[] arr ∧ caps.length = arr.size ∧ ∀ (j : Nat) c x, caps[j]? = some c → arr[j]? = some x → Rep st.heap g w c x := by
        generalize a.eval f = q at hfr
        cases hfr with | fn _ _ arr a1 a2 => exact ⟨arr, rfl, a1, a2⟩
      obtain ⟨e1, e2⟩ := args_rep htr args
      refine callV_wp c f args ts ho hk (.inl ⟨fid, carr, hfv, fun w => hok.enter _ w, pure_calls hok s dr _ _ _ (by rw [List.length_append, Array.size_append, e1, hcl]) (fun j c x hc hx => ?_) hq⟩)
      rcases Nat.lt_or_ge j (args.toList.map st.ev).length with hj | hj
      · rw [List.getElem?_append_left hj] at hc
        rw [Array.getElem?_append_left (by rw [← e1]; exact hj)] at hx
        exact e2 j c x hc hx
      · rw [List.getElem?_append_right hj] at hc
        rw [Array.getElem?_append_right (by rw [← e1]; exact hj), ← e1] at hx
        exact hcr _ c x hc hx
end
end Go.Proofs.Ytcbfmkfmdcabmaa

namespace Go.Proofs.Ytcbfmkfmdcabmaa
open Go.RowKit
section
variable {P : Program} {T : Tab} {h : List ABlk} {g : Gh} {w : World}
structure OneIs (P : Program) (t : TypeId) (s : Sh) (a : s.ty) (x : Value) : Prop where
  eq : ∀ (h : List ABlk) (g : Gh) (w w' : World) (d : Nat) (b : s.ty) (y : Value), Rep h g w (s.val b) y → (Op.equalIn (d + 1) t x y).run P w' = .ok (s.eqb a b) w'
  chk : ∀ (em : Bool) (n : Nat) (w' : World), (Instr.checkKey em (n + 1) t x).run P w' = .ok () w'
  det : ∀ (h : List ABlk) (g : Gh) (w : World) (b : s.ty) (y : Value), Rep h g w (s.val b) y → s.eqb a b = true → x = y
  bits : ∀ n, Instr.sameBits n x x = true
theorem rep_str {x : Value} {s : ByteArray} (r : Rep h g w (.str s) x) : x = .string s := by cases r; rfl
theorem one_is (hT : TabOk P T) {t : TypeId} {s : Sh} (ho : oneT T t s = true) {a : s.ty} {x : Value} (r : Rep h g w (s.val a) x) : OneIs P t s a x ∧ s.cells a = [s.val a] ∧ isAggT T t = some false := by
  cases s with
  | int k =>
    simp only [oneT] at ho
    split at ho
    · rename_i j hu
      have hj := of_decide_eq_true ho
      subst hj
      have hx : x = .int j a := rep_int r
      subst hx
      refine ⟨⟨fun h g w w' d b y ry => ?_, fun em n w' => ?_, fun h g w b y ry he => ?_, fun n => ?_⟩, rfl, ?_⟩
      · rw [rep_int (n := b) ry]; simp [Op.equalIn, run_underlying (und_int hT hu), Sh.eqb]
      · simp [Instr.checkKey, run_underlying (und_int hT hu)]
      · rw [rep_int (n := b) ry, (@beq_iff_eq Int _ _ a b).1 he]
      · cases n <;> (simp only [Instr.sameBits, BEq.rfl, Bool.true_and]; exact (@beq_iff_eq Int _ _ a a).2 rfl)
      · unfold isAggT; rw [hu]
    · cases ho
  | bool =>
    simp only [oneT] at ho
    split at ho
    · rename_i hu
      have hx : x = .bool a := rep_bool r
      subst hx
      refine ⟨⟨fun h g w w' d b y ry => ?_, fun em n w' => ?_, fun h g w b y ry he => ?_, fun n => ?_⟩, rfl, ?_⟩
      · rw [rep_bool (b := b) ry]; simp [Op.equalIn, run_underlying (und_bool hT hu), Sh.eqb]
      · simp [Instr.checkKey, run_underlying (und_bool hT hu)]
      · rw [rep_bool (b := b) ry, (@beq_iff_eq Bool _ _ a b).1 he]
      · cases n <;> (simp only [Instr.sameBits]; exact (@beq_iff_eq Bool _ _ a a).2 rfl)
      · unfold isAggT; rw [hu]
    · cases ho
  | str =>
    simp only [oneT] at ho
    split at ho
    · rename_i hu
      have hx : x = .string a := rep_str r
      subst hx
      refine ⟨⟨fun h g w w' d b y ry => ?_, fun em n w' => ?_, fun h g w b y ry he => ?_, fun n => ?_⟩, rfl, ?_⟩
      · rw [rep_str (s := b) ry]; simp [Op.equalIn, run_underlying (und_str hT hu), Sh.eqb]
      · simp [Instr.checkKey, run_underlying (und_str hT hu)]
      · rw [rep_str (s := b) ry]; have : a = b := (MapKept.bytes_beq a b).1 he
        rw [this]
      · cases n <;> (simp only [Instr.sameBits]; exact (MapKept.bytes_beq a a).2 rfl)
      · unfold isAggT; rw [hu]
    · cases ho
  | _ => cases ho
theorem part_one (hT : TabOk P T) {t : TypeId} (ha : isAggT T t = some false) {arr : Array Value} {off : Nat} {x : Value} (hx : arr[off]? = some x) (w : World) : (part t arr off).run P w = .ok x w := by
  have hrun := (isAggT_run (w := w) hT ha).1
  simp [part, hrun, hx]
def FromAt (h : List ABlk) (g : Gh) (w : World) (fs : Shs) (a : fs.ty) (ax : Array Value) (n : Nat) : Prop := ∀ (j : Nat) c, (fs.cells a)[j]? = some c → ∃ x, ax[n + j]? = some x ∧ Rep h g w c x
theorem FromAt.cons {s : Sh} {q : Shs} {a : (Shs.cons s q).ty} {ax : Array Value} {n : Nat} (f : FromAt h g w (.cons s q) a ax n) (hc : s.cells a.1 = [s.val a.1]) : (∃ x, ax[n]? = some x ∧ Rep h g w (s.val a.1) x) ∧ FromAt h g w q a.2 ax (n + 1) := by
  constructor
  · have := f 0 (s.val a.1) (by simp only [Shs.cells, hc]; rfl)
    simpa using this
  · intro j c hj
    have := f (j + 1) c (by simp only [Shs.cells, hc]; simpa using hj)
    rw [show n + 1 + j = n + (j + 1) by omega]; exact this
theorem one_cell {s : Sh} {t : TypeId} (ho : oneT T t s = true) (a : s.ty) : s.cells a = [s.val a] := by
  cases s <;> first | rfl | cases ho
theorem flat_eq (hT : TabOk P T) (d : Nat) {ax ay : Array Value} {h' : List ABlk} {g' : Gh} {w0 w' : World} : ∀ (F : List Field) (fs : Shs) (n : Nat) (a b : fs.ty), flatF T (F.map fun f => (f.offset, f.type)) fs n = true → (∀ f ∈ F, f.name ≠ "_") →
    FromAt h g w fs a ax n → FromAt h' g' w0 fs b ay n → (Op.eqFields (d + 1) ax ay F).run P w' = .ok (fs.eqb a b) w'
  | [], .nil, n, a, b, _, _, _, _ => by simp [Op.eqFields, Shs.eqb]
  | [], .cons s q, n, a, b, hf, _, _, _ => by simp [flatF] at hf
  | f :: F, .nil, n, a, b, hf, _, _, _ => by simp [flatF] at hf
  | f :: F, .cons s q, n, a, b, hf, hn, fa, fb => by
    simp only [List.map_cons, flatF, Bool.and_eq_true, decide_eq_true_eq] at hf
    obtain ⟨⟨h1, h2⟩, h3⟩ := hf
    obtain ⟨⟨x, hx, rx⟩, fa'⟩ := fa.cons (one_cell h2 a.1)
    obtain ⟨⟨y, hy, ry⟩, fb'⟩ := fb.cons (one_cell h2 b.1)
    obtain ⟨o, _, hag⟩ := one_is hT h2 rx
    have ih := flat_eq (w' := w') hT d F q (n + 1) a.2 b.2 h3 (fun f' hf' => hn f' (List.mem_cons_of_mem _ hf')) fa' fb'
    have hnf := hn f (List.mem_cons_self ..)
    have he := o.eq _ _ _ w' d b.1 y ry
    simp only [Op.eqFields, ne_eq, hnf, not_false_eq_true, if_true, Sem.run_bind, part_one hT hag (h1 ▸ hx) w', part_one hT hag (h1 ▸ hy) w', he, Result.andThen_ok, Shs.eqb]
    cases s.eqb a.1 b.1
    · simp
    · simpa using ih
theorem items_eq (hT : TabOk P T) (d : Nat) {e : TypeId} {c : Nat} (hc : c = 1) {ax ay : Array Value} {h' : List ABlk} {g' : Gh} {w0 w' : World} : ∀ (is : List Nat) (fs : Shs) (n : Nat) (a b : fs.ty), flatF T (is.map fun i => (i, e)) fs n = true →
    FromAt h g w fs a ax n → FromAt h' g' w0 fs b ay n → (Op.eqItems (d + 1) e c ax ay is).run P w' = .ok (fs.eqb a b) w'
  | [], .nil, n, a, b, _, _, _ => by simp [Op.eqItems, Shs.eqb]
  | [], .cons s q, n, a, b, hf, _, _ => by simp [flatF] at hf
  | i :: is, .nil, n, a, b, hf, _, _ => by simp [flatF] at hf
  | i :: is, .cons s q, n, a, b, hf, fa, fb => by
    simp only [List.map_cons, flatF, Bool.and_eq_true, decide_eq_true_eq] at hf
    obtain ⟨⟨h1, h2⟩, h3⟩ := hf
    obtain ⟨⟨x, hx, rx⟩, fa'⟩ := fa.cons (one_cell h2 a.1)
    obtain ⟨⟨y, hy, ry⟩, fb'⟩ := fb.cons (one_cell h2 b.1)
    obtain ⟨o, _, hag⟩ := one_is hT h2 rx
    have ih := items_eq (w' := w') hT d hc is q (n + 1) a.2 b.2 h3 fa' fb'
    have he := o.eq _ _ _ w' d b.1 y ry
    have hi : i * c = n := by rw [hc, Nat.mul_one]; exact h1
    simp only [Op.eqItems, hi, Sem.run_bind, part_one hT hag hx w', part_one hT hag hy w', he, Result.andThen_ok, Shs.eqb]
    cases s.eqb a.1 b.1
    · simp
    · simpa using ih
theorem from_rep {fs : Shs} {a : fs.ty} {arr : Array Value} (hl : (fs.cells a).length = arr.size) (hr : ∀ (j : Nat) c x, (fs.cells a)[j]? = some c → arr[j]? = some x → Rep h g w c x) : FromAt h g w fs a arr 0 := fun j c hj => by
  have hlt := (List.getElem?_eq_some_iff.1 hj).1
  have hx : arr[j]? = some arr[j] := Array.getElem?_eq_getElem (by omega)
  exact ⟨_, by rw [Nat.zero_add]; exact hx, hr j c _ hj hx⟩
theorem key_eq (hT : TabOk P T) {kt : TypeId} {ks : Sh} (hk : keyB T kt ks = true) {a b : ks.ty} {x y : Value} {h' : List ABlk} {g' : Gh} {w0 : World} (ra : Rep h g w (ks.val a) x) (rb : Rep h' g' w0 (ks.val b) y) (w' : World) : (Op.equal kt x y).run P w' = .ok (ks.eqb a b) w' := by
  cases ks with
  | recd fs =>
    obtain ⟨ax, rfl, hlx, hrx⟩ := rep_agg (cs := fs.cells a) ra
    obtain ⟨ay, rfl, hly, hry⟩ := rep_agg (cs := fs.cells b) rb
    have fa := from_rep hlx hrx
    have fb := from_rep hly hry
    simp only [keyB] at hk
    show (Op.equalIn (9998 + 1 + 1) kt _ _).run P w' = .ok (fs.eqb a b) w'
    split at hk
    · rename_i l hu
      obtain ⟨F, hF, hFl, hst, _, hnm⟩ := und_recd' hT hu
      have hfo : P.fieldsOf kt = F := by simp [Program.fieldsOf, hF]
      rw [run_equalIn_struct w' (9998 + 1) kt ax ay (by rw [hfo]; exact hF) hst, hfo]
      subst hFl
      exact flat_eq hT 9998 F.toList fs 0 a b hk hnm fa fb
    · rename_i n e hu
      simp only [Bool.and_eq_true, decide_eq_true_eq] at hk
      obtain ⟨i, hi, hs, _⟩ := tab_size hT (t := e) (by omega)
      have hcs : P.cellsOf e = 1 := by rw [← hk.1, ← hs]; simp [Program.cellsOf, hi]
      rw [run_equalIn_array w' (9998 + 1) ax ay (und_arr hT hu) hi]
      exact items_eq hT 9998 hcs (List.range n) fs 0 a b hk.2 fa fb
    · cases hk
  | _ => cases hk
theorem flat_chk (hT : TabOk P T) (em : Bool) (n0 : Nat) {ax : Array Value} (w' : World) : ∀ (F : List Field) (fs : Shs) (n : Nat) (a : fs.ty), flatF T (F.map fun f => (f.offset, f.type)) fs n = true → FromAt h g w fs a ax n →
    (forIn (m := Sem) F PUnit.unit fun f _ => (if f.name ≠ "_" then do
      let y ← part f.type ax f.offset
      Instr.checkKey em (n0 + 1) f.type y
      pure (ForInStep.yield PUnit.unit)
    else pure (ForInStep.yield PUnit.unit))).run P w' = .ok PUnit.unit w'
  | [], fs, n, a, _, _ => by simp
  | f :: F, .nil, n, a, hf, _ => by simp [flatF] at hf
  | f :: F, .cons s q, n, a, hf, fa => by
    simp only [List.map_cons, flatF, Bool.and_eq_true, decide_eq_true_eq] at hf
    obtain ⟨⟨h1, h2⟩, h3⟩ := hf
    obtain ⟨⟨x, hx, rx⟩, fa'⟩ := fa.cons (one_cell h2 a.1)
    obtain ⟨o, _, hag⟩ := one_is hT h2 rx
    have ih := flat_chk hT em n0 w' F q (n + 1) a.2 h3 fa'
    have hp := part_one hT hag (h1 ▸ hx) w'
    have hc := o.chk em n0 w'
    rw [List.forIn_cons]
    simp only [Sem.run_bind, Sem.run_ite, hp, hc, Result.andThen_ok, Sem.run_pure]
    split <;> simpa using ih
theorem items_chk (hT : TabOk P T) (em : Bool) (n0 : Nat) {e : TypeId} {c : Nat} (hc1 : c = 1) {ax : Array Value} (w' : World) (hz : (sizeOf e).run P w' = .ok c w') : ∀ (is : List Nat) (fs : Shs) (n : Nat) (a : fs.ty), flatF T (is.map fun i => (i, e)) fs n = true → FromAt h g w fs a ax n →
    (forIn (m := Sem) is PUnit.unit fun i _ => (do
      let z ← sizeOf e
      let y ← part e ax (i * z)
      Instr.checkKey em (n0 + 1) e y
      pure (ForInStep.yield PUnit.unit))).run P w' = .ok PUnit.unit w'
  | [], fs, n, a, _, _ => by simp
  | i :: is, .nil, n, a, hf, _ => by simp [flatF] at hf
  | i :: is, .cons s q, n, a, hf, fa => by
    simp only [List.map_cons, flatF, Bool.and_eq_true, decide_eq_true_eq] at hf
    obtain ⟨⟨h1, h2⟩, h3⟩ := hf
    obtain ⟨⟨x, hx, rx⟩, fa'⟩ := fa.cons (one_cell h2 a.1)
    obtain ⟨o, _, hag⟩ := one_is hT h2 rx
    have ih := items_chk hT em n0 hc1 w' hz is q (n + 1) a.2 h3 fa'
    have hi : i * c = n := by rw [hc1, Nat.mul_one]; exact h1
    have hp := part_one hT hag hx w'
    have hc := o.chk em n0 w'
    rw [List.forIn_cons]
    simp only [Sem.run_bind, hz, hi, hp, hc, Result.andThen_ok, Sem.run_pure]
    simpa using ih
theorem key_check (hT : TabOk P T) {kt : TypeId} {ks : Sh} (hk : keyB T kt ks = true) {a : ks.ty} {x : Value} (ra : Rep h g w (ks.val a) x) (em : Bool) (w' : World) : (Instr.checkKey em 10000 kt x).run P w' = .ok () w' := by
  cases ks with
  | recd fs =>
    obtain ⟨ax, rfl, hlx, hrx⟩ := rep_agg (cs := fs.cells a) ra
    have fa := from_rep hlx hrx
    simp only [keyB] at hk
    show (Instr.checkKey em (9998 + 1 + 1) kt _).run P w' = .ok () w'
    split at hk
    · rename_i l hu
      obtain ⟨F, hF, hFl, _, _, _⟩ := und_recd' hT hu
      subst hFl
      have := flat_chk hT em 9998 w' F.toList fs 0 a hk fa
      rw [Instr.checkKey]
      simp only [Sem.run_bind, run_underlying hF, Result.andThen_ok]
      rw [← Array.forIn_toList]
      rw [this]; rfl
    · rename_i n e hu
      simp only [Bool.and_eq_true, decide_eq_true_eq] at hk
      obtain ⟨i, hi, hs, _⟩ := tab_size hT (t := e) (by omega)
      have hz : (sizeOf e).run P w' = .ok 1 w' := by simp [sizeOf, typeInfo, hi, hs, hk.1]
      have := items_chk hT em 9998 rfl w' hz (List.range n) fs 0 a hk.2 fa
      rw [Instr.checkKey]
      simp only [Sem.run_bind, run_underlying (und_arr hT hu), Result.andThen_ok, Std.Legacy.Range.forIn_eq_forIn_range', Std.Legacy.Range.size, Nat.sub_zero, Nat.add_one_sub_one, Nat.div_one, ← List.range_eq_range']
      rw [this]; rfl
    · cases hk
  | _ => cases hk
theorem shs_det (hT : TabOk P T) {ax ay : Array Value} {h' : List ABlk} {g' : Gh} {w0 : World} : ∀ (l : List (Nat × TypeId)) (fs : Shs) (n : Nat) (a b : fs.ty), flatF T l fs n = true → FromAt h g w fs a ax n → FromAt h' g' w0 fs b ay n → fs.eqb a b = true →
    ∀ j, n ≤ j → j < n + (fs.cells a).length → ∃ x, ax[j]? = some x ∧ ay[j]? = some x ∧ ∀ m, Instr.sameBits m x x = true
  | _, .nil, n, a, b, _, _, _, _, j, h1, h2 => by simp [Shs.cells] at h2; omega
  | [], .cons s q, n, a, b, hf, _, _, _, j, h1, h2 => by simp [flatF] at hf
  | (off, t) :: l, .cons s q, n, a, b, hf, fa, fb, he, j, h1, h2 => by
    simp only [flatF, Bool.and_eq_true, decide_eq_true_eq] at hf
    obtain ⟨⟨h3, h4⟩, h5⟩ := hf
    obtain ⟨⟨x, hx, rx⟩, fa'⟩ := fa.cons (one_cell h4 a.1)
    obtain ⟨⟨y, hy, ry⟩, fb'⟩ := fb.cons (one_cell h4 b.1)
    obtain ⟨o, _, _⟩ := one_is hT h4 rx
    simp only [Shs.eqb, Bool.and_eq_true] at he
    by_cases hj : j = n
    · subst hj
      have := o.det _ _ _ _ _ ry he.1
      exact ⟨x, hx, this ▸ hy, o.bits⟩
    · have hl : ((Shs.cons s q).cells a).length = 1 + (q.cells a.2).length := by simp only [Shs.cells, one_cell h4 a.1]; simp; omega
      exact shs_det hT l q (n + 1) a.2 b.2 h5 fa' fb' he.2 j (by omega) (by omega)
theorem shs_len {T : Tab} : ∀ (l : List (Nat × TypeId)) (fs : Shs) (n : Nat) (a b : fs.ty), flatF T l fs n = true → (fs.cells a).length = (fs.cells b).length := fun _ fs _ a b _ => by rw [Shs.cells_size, Shs.cells_size]
theorem key_det (hT : TabOk P T) {kt : TypeId} {ks : Sh} (hk : keyB T kt ks = true) {a b : ks.ty} {x y : Value} {h' : List ABlk} {g' : Gh} {w0 : World} (ra : Rep h g w (ks.val a) x) (rb : Rep h' g' w0 (ks.val b) y) (he : ks.eqb a b = true) : x = y ∧ Instr.sameBits 10000 x x = true := by
  cases ks with
  | recd fs =>
    obtain ⟨ax, rfl, hlx, hrx⟩ := rep_agg (cs := fs.cells a) ra
    obtain ⟨ay, rfl, hly, hry⟩ := rep_agg (cs := fs.cells b) rb
    have fa := from_rep hlx hrx
    have fb := from_rep hly hry
    obtain ⟨l, hl⟩ : ∃ l, flatF T l fs 0 = true := by
      simp only [keyB] at hk
      split at hk
      · exact ⟨_, hk⟩
      · simp only [Bool.and_eq_true] at hk; exact ⟨_, hk.2⟩
      · cases hk
    have key := shs_det hT l fs 0 a b hl fa fb he
    have hs : ax.size = ay.size := by rw [← hlx, ← hly]; exact shs_len l fs 0 a b hl
    have heq : ax = ay := Array.ext hs fun j h1 h2 => by
      obtain ⟨z, e1, e2, _⟩ := key j (Nat.zero_le _) (by rw [hlx]; omega)
      rw [Array.getElem?_eq_getElem h1] at e1
      rw [Array.getElem?_eq_getElem h2] at e2
      rw [Option.some.inj e1, Option.some.inj e2]
    refine ⟨by rw [heq], ?_⟩
    show Instr.sameBits (9999 + 1) (.agg ax) (.agg ax) = true
    simp only [Instr.sameBits, BEq.rfl, Bool.true_and]
    refine List.all_eq_true.2 fun p hp => ?_
    obtain ⟨j, hj, e⟩ := List.getElem_of_mem hp
    rw [List.getElem_zip] at e
    have hj' : j < ax.size := by simp at hj; omega
    obtain ⟨z, e1, _, hb⟩ := key j (Nat.zero_le _) (by rw [hlx]; omega)
    rw [Array.getElem?_eq_getElem hj'] at e1
    have e2 := Option.some.inj e1
    rw [← e]
    simp only [Array.getElem_toList, e2]
    exact hb 9999
  | _ => cases hk
theorem find_run (hT : TabOk P T) {kt : TypeId} {ks vs : Sh} (hk : keyB T kt ks = true) {q : ks.ty} {x : Value} (hq : Rep h g w (ks.val q) x) (w' : World) : ∀ (es : List MapEntry) (xs : List (ks.ty × vs.ty)) (i : Nat), es.length = xs.length →
    (∀ (n : Nat) (p : ks.ty × vs.ty) (en : MapEntry), xs[n]? = some p → es[n]? = some en → Rep h g w (ks.val p.1) en.key ∧ Rep h g w (vs.val p.2) en.val) →
    (mpFind ks vs q xs = none ∧ (Instr.findAsking kt x es i).run P w' = .ok none w' ∧ ∀ y, mpPut ks vs q y xs = xs ++ [(q, y)]) ∨
    ∃ (j : Nat) (en : MapEntry) (p : ks.ty × vs.ty), (Instr.findAsking kt x es i).run P w' = .ok (some (i + j, en.val)) w' ∧ es[j]? = some en ∧ xs[j]? = some p ∧ mpFind ks vs q xs = some p.2 ∧ en.key = x ∧ Instr.sameBits 10000 x x = true ∧ ∀ y, mpPut ks vs q y xs = xs.set j (q, y)
  | [], [], i, _, _ => .inl ⟨rfl, by simp [Instr.findAsking], fun y => rfl⟩
  | [], _ :: _, i, h, _ => by simp at h
  | _ :: _, [], i, h, _ => by simp at h
  | e :: es, p :: xs, i, hl, hr => by
    obtain ⟨r1, r2⟩ := hr 0 p e rfl rfl
    have heq := key_eq hT hk hq r1 w'
    cases hb : ks.eqb q p.1
    · rw [hb] at heq
      rcases find_run hT hk hq w' es xs (i + 1) (by simpa using hl) (fun n p' en a b => hr (n + 1) p' en (by simpa using a) (by simpa using b)) with ⟨h1, h2, h3⟩ | ⟨j, en, p', h1, h2, h3, h4, h5, h6, h7⟩
      · exact .inl ⟨by rw [mpFind, hb]; exact h1, by simp [Instr.findAsking, Sem.run_bind, heq, h2], fun y => by rw [mpPut, hb, cond_false, h3 y]; rfl⟩
      · exact .inr ⟨j + 1, en, p', by simp [Instr.findAsking, Sem.run_bind, heq, h1]; omega, by simpa using h2, by simpa using h3, by rw [mpFind, hb]; exact h4, h5, h6, fun y => by rw [mpPut, hb, cond_false, h7 y]; rfl⟩
    · rw [hb] at heq
      obtain ⟨d1, d2⟩ := key_det hT hk hq r1 hb
      exact .inr ⟨0, e, p, by simp [Instr.findAsking, Sem.run_bind, heq], rfl, rfl, by rw [mpFind, hb]; rfl, d1.symm, d2, fun y => by rw [mpPut, hb]; rfl⟩
theorem key_wide (hT : TabOk P T) {kt : TypeId} {ks : Sh} (hk : keyB T kt ks = true) : (match P.underlying kt with | some (.array _ _) | some (.struct _) => true | _ => false) = true := by
  cases ks with
  | recd fs =>
    simp only [keyB] at hk
    split at hk
    · rename_i l hu
      obtain ⟨F, hF, _⟩ := und_recd' hT hu
      rw [hF]
    · rename_i n e hu
      rw [und_arr hT hu]
    · cases hk
  | _ => cases hk
end
section
variable {P : Program} {T : Tab} {o : Oper} {a : Act} {w : World} {α : Type} {r : α} {h : List ABlk} {g : Gh}
theorem st_nil {K} (s : St K h g w) : St K [] g w where
  blk := fun i b hb => by simp at hb
  inj := fun i j b ⟨_, hb, _⟩ => by simp at hb
  sep := fun i b ⟨_, hb, _⟩ => by simp at hb
  low := s.low
  klow := s.klow
theorem exV_rep {K} (s : St K h g w) {sh : Sh} {v : AVal} {x : Value} (hr : Rep h g w v x) {y : sh.ty} (he : exV h sh v = some y) (hn : v.named1 = []) {h' : List ABlk} {g' : Gh} (hM : ∀ b, g.M b → g'.M b) : Rep h' g' w (sh.val y) x := by
  unfold exV at he
  split at he
  · rename_i u hu
    cases ho : okAgg u sh
    · rw [ho] at he; cases he
    · rw [ho, cond_true] at he
      exact sim_val (peek1_rep s hr hu hM (fun i hi => by rw [hn] at hi; cases hi)) ho (Sh.all_spec he)
  · cases he
theorem le_setBlk {K w'} (s : St K h g w) {i b : Nat} {ob nb : ABlk} (hi : h[i]? = some ob) (hd : ob ≠ .dead) (hρ : blockOf (g.ρ i) = some b)
    (hbox : ∀ wr cs', nb ≠ .box wr cs') (hrow : ∀ wr t e xs', nb = .row wr t e xs' → ∃ xs, ob = .row wr t e xs ∧ (0 < e.size → xs'.length = xs.length))
    (hnf : nb ≠ .free) (hlp : ∀ st pend ts ps aw bo, nb ≠ .lp st pend ts ps aw bo) (hlb : ∀ cs, ob ≠ .box false cs) (hlr : ∀ t e xs, ob ≠ .row false t e xs)
    (hoth : ∀ n, n ≠ b → w'.heap[n]? = w.heap[n]?) (hos : w'.os = w.os) (htp : w'.tape = w.tape) (hou : w'.output = w.output) (hsz : w.heap.size ≤ w'.heap.size) :
    Le K h g w (h.set i nb) g w' where
  len := by simp
  here := fun j ⟨b0, hb, hn⟩ => here_set hi hnf j ⟨b0, hb, hn⟩
  m := fun _ h => h
  new := fun _ h => .inl h
  mw := fun n hn => hoth n fun e => by subst e; exact (s.sep i n ⟨ob, hi, hd⟩ hρ).2.1 hn
  k := fun n hn => hoth n fun e => by subst e; exact (s.sep i n ⟨ob, hi, hd⟩ hρ).1 hn
  box := fun j wr cs' _ h' => by
    rcases set_get h' with ⟨rfl, e, _⟩ | ⟨_, e⟩
    · exact absurd e.symm (hbox wr cs')
    · exact ⟨wr, cs', e, rfl, rfl⟩
  row := fun j wr t e xs' _ h' => by
    rcases set_get h' with ⟨rfl, e, _⟩ | ⟨_, e⟩
    · obtain ⟨xs, h1, h2⟩ := hrow wr t _ xs' e.symm
      exact ⟨wr, xs, by rw [hi, h1], h2, rfl⟩
    · exact ⟨wr, xs', e, fun _ => rfl, rfl⟩
  lp := fun j st pend ts ps aw bo _ h' => by
    rcases set_get h' with ⟨rfl, e, _⟩ | ⟨_, e⟩
    · exact absurd e.symm (hlp st pend ts ps aw bo)
    · exact ⟨st, pend, e, rfl⟩
  lockb := fun j cs h' => by
    have : i ≠ j := fun e => by subst e; rw [hi] at h'; cases h'; exact hlb cs rfl
    rw [List.getElem?_set, if_neg this]; exact h'
  lockr := fun j t e xs h' => by
    have : i ≠ j := fun e => by subst e; rw [hi] at h'; cases h'; exact hlr _ _ _ rfl
    rw [List.getElem?_set, if_neg this]; exact h'
  os := hos
  tape := htp
  output := hou
  size := hsz
theorem look_sound {K} (hT : TabOk P T) (s : St K h g w) (t : TypeId) (m x : Operand) (ok : Bool) (ho : o.op = .lookup t m x ok) (u v : AVal) (hu : Rep h g w u (a.eval m)) (hv : Rep h g w v (a.eval x)) (k : AVal → Option α) (hk : evLook T t u v ok h k = some r) :
    ∃ z zz, k z = some r ∧ Rep h g w z zz ∧ (execOp a.eval o).run P w = .ok (.value zz) w := by
  unfold evLook at hk
  split at hk
  · rename_i kt vt i hund
    split at hk
    · rename_i wr t' ks vs xs hh
      split at hk
      · rename_i hc
        split at hk
        · rename_i q z hq hz
          split at hk
          · rename_i y hy
            have hi := getD_some (by simp) hh
            obtain ⟨rr, es, ck, e1, e2, e3, e5, e4⟩ : RowOk h g w (g.ρ i) t' (.mp ks vs) xs := s.blk i _ hi
            have hm : a.eval m = .map (some rr) := by rw [rep_own hu hi]; exact e1
            have hq' := exV_rep s hv hq hc.2 (h' := h) (g' := g) (fun _ h => h)
            obtain ⟨z0, hz0, rz0⟩ := zero_rep (w := w) hT (h := []) (g := g) hz
            have hzn : z.named1 = [] := by
              obtain ⟨_, v0, _, _, _, _, ev⟩ := tab_zero hT hz
              rw [← ev]
              have sc : ∀ v : Value, (ofScalar v).named0 = [] ∧ (ofScalar v).named1 = [] := fun v => by unfold ofScalar; split <;> exact ⟨rfl, rfl⟩
              unfold ofValue
              split
              · rename_i cs
                simp only [AVal.named1, List.flatMap_map]
                exact List.flatMap_eq_nil_iff.2 fun c _ => (sc c).1
              · exact (sc _).2
            have ry := exV_rep (st_nil s) rz0 hy hzn (h' := h) (g' := g) (fun _ h => h)
            have hfind := find_run hT hc.1 hq' w es.toList xs 0 (by rw [Array.length_toList]; exact e3) (fun n p en a b => e4 n p en a (by simpa using b))
            have hund' := und_map hT hund
            have hchk := key_check hT hc.1 hq' es.isEmpty w
            have hkey : (Instr.findKey kt (a.eval x) es.toList).run P w = (Instr.findAsking kt (a.eval x) es.toList).run P w := run_findKey_eq w (key_wide hT hc.1) _ _
            have fin : ∀ (res : vs.ty) (b : Bool) (vv : Value), Rep h g w (vs.val res) vv → (Instr.lookup t (a.eval m) (a.eval x) ok).run P w = .ok (if ok then .tuple #[vv, .bool b] else vv) w →
                ∃ zz, Rep h g w (bif ok then .tup [vs.val res, .bool b] else vs.val res) zz ∧ (execOp a.eval o).run P w = .ok (.value zz) w := fun res b vv hr hrun => by
              cases ok
              · exact ⟨vv, hr, by simp [execOp, ho, hrun]⟩
              · refine ⟨.tuple #[vv, .bool b], .tup _ _ rfl fun j c x' hc hx => ?_, by simp [execOp, ho, hrun]⟩
                rcases j with _ | _ | j
                · cases hc; cases hx; exact hr
                · cases hc; cases hx; exact .bool b
                · cases hc
            rcases hfind with ⟨f1, f2, _⟩ | ⟨j, en, p, f1, f2, f3, f4, _⟩
            · rw [f1] at hk
              obtain ⟨zz, p1, p2⟩ := fin y false z0 ry (by
                unfold Instr.lookup
                simp only [Sem.run_bind, run_underlying hund', Result.andThen_ok, hm, MapKept.run_getObj_map e2, Sem.run_pure, hchk, hkey, f2, hz0])
              exact ⟨_, zz, hk, p1, p2⟩
            · rw [f4] at hk
              obtain ⟨_, r2⟩ := e4 j p en f3 (by simpa using f2)
              obtain ⟨zz, p1, p2⟩ := fin p.2 true en.val r2 (by
                unfold Instr.lookup
                simp only [Sem.run_bind, run_underlying hund', Result.andThen_ok, hm, MapKept.run_getObj_map e2, Sem.run_pure, hchk, hkey, f1])
              exact ⟨_, zz, hk, p1, p2⟩
          · cases hk
        · cases hk
      · cases hk
    · cases hk
  · cases hk
theorem upd_core {K} (hT : TabOk P T) (st : AS) {g : Gh} (s : St K st.heap g w) (t : TypeId) (m x y : Operand) (ho : o.op = .mapUpdate t m x y) {i : Nat} {v z : AVal} (hu : Rep st.heap g w (.own i) (a.eval m)) (hv : Rep st.heap g w v (a.eval x)) (hz : Rep st.heap g w z (a.eval y))
    (k : AS → Option α) {kt vt t' : TypeId} {ks vs : Sh} {xs : List (ks.ty × vs.ty)} {q : ks.ty} {yy : vs.ty} (hund : T.und t = some (.map kt vt)) (hi : st.heap[i]? = some (.row true t' (.mp ks vs) xs)) (hc : keyB T kt ks = true ∧ v.named1 = [] ∧ z.named1 = []) (hq : exV st.heap ks v = some q) (hy : exV st.heap vs z = some yy)
    (hk : k { st with heap := st.heap.set i (.row true t' (.mp ks vs) (mpPut ks vs q yy xs)) } = some r) :
    ∃ st' w', k st' = some r ∧ st'.tmps = st.tmps ∧ St K st'.heap g w' ∧ Le K st.heap g w st'.heap g w' ∧ (execOp a.eval o).run P w = .ok .skip w' := by
  obtain ⟨rr, es, ck, e1, e2, e3, e5, e4⟩ : RowOk st.heap g w (g.ρ i) t' (.mp ks vs) xs := s.blk i _ hi
  have e3 : es.size = xs.length := e3
  have hm : a.eval m = .map (some rr) := by rw [rep_own hu hi]; exact e1
  have hq' := exV_rep s hv hq hc.2.1 (h' := st.heap) (g' := g) (fun _ h => h)
  have hy' := exV_rep s hz hy hc.2.2 (h' := st.heap) (g' := g) (fun _ h => h)
  have hfind := find_run hT hc.1 hq' w es.toList xs 0 (by rw [Array.length_toList]; exact e3) (fun n p en a b => e4 n p en a (by simpa using b))
  have hund' := und_map hT hund
  have hchk := key_check hT hc.1 hq' false w
  have hkey : (Instr.findKey kt (a.eval x) es.toList).run P w = (Instr.findAsking kt (a.eval x) es.toList).run P w := run_findKey_eq w (key_wide hT hc.1) _ _
  have hρ : blockOf (g.ρ i) = some rr := by rw [e1]; rfl
  have ha : alive st.heap i := ⟨_, hi, by simp⟩
  have fin : ∀ (es' : Array MapEntry) (ck' : Nat), es'.size = (mpPut ks vs q yy xs).length → ((∀ x ∈ es'.toList, x.born < ck') ∧ (es'.toList.map (·.born)).Nodup) →
      (∀ (n : Nat) (p : ks.ty × vs.ty) (en : MapEntry), (mpPut ks vs q yy xs)[n]? = some p → es'[n]? = some en → Rep st.heap g w (ks.val p.1) en.key ∧ Rep st.heap g w (vs.val p.2) en.val) →
      (Instr.mapUpdate t (a.eval m) (a.eval x) (a.eval y)).run P w = .ok () { w with heap := w.heap.setIfInBounds rr (.map es' ck') } →
      ∃ st' w', k st' = some r ∧ st'.tmps = st.tmps ∧ St K st'.heap g w' ∧ Le K st.heap g w st'.heap g w' ∧ (execOp a.eval o).run P w = .ok .skip w' := fun es' ck' hl hbn hr hrun => by
    obtain ⟨hs1, hs2⟩ := MapKept.heap_set (o' := .map es' ck') e2
    have l : Le K st.heap g w (st.heap.set i (.row true t' (.mp ks vs) (mpPut ks vs q yy xs))) g { w with heap := w.heap.setIfInBounds rr (.map es' ck') } :=
      le_setBlk s hi (by simp) hρ (fun _ _ e => by cases e) (fun wr t2 e2 xs2 e' => by cases e'; exact ⟨xs, rfl, fun h0 => absurd h0 (Nat.lt_irrefl 0)⟩) (by simp) (fun _ _ _ _ _ _ e => by cases e) (fun cs e => by cases e) (fun t e xs e' => by cases e') (fun n hn => hs2 n hn) rfl rfl rfl (by simp)
    refine ⟨_, _, hk, rfl, s.turn i _ l ha (fun j n hj hja hn => hs2 n fun e => by subst e; exact hj (s.inj j i n hja ha hn hρ)) ?_, l, by simp [execOp, ho, hrun]⟩
    exact ⟨rr, es', ck', e1, hs1, hl, hbn, fun n p en a b => ⟨(hr n p en a b).1.mono l, (hr n p en a b).2.mono l⟩⟩
  rcases hfind with ⟨f1, f2, f3⟩ | ⟨j, en, p, f1, f2, f3, f4, f5, f6, f7⟩
  · refine fin (es.push { key := a.eval x, val := a.eval y, born := ck }) (ck + 1) (by rw [f3 yy]; simp [e3]) ⟨fun x0 hx0 => by
        rw [Array.toList_push, List.mem_append, List.mem_singleton] at hx0
        rcases hx0 with h0 | rfl
        · exact Nat.lt_succ_of_lt (e5.1 x0 h0)
        · exact Nat.lt_succ_self _, by
        rw [Array.toList_push, List.map_append, List.nodup_append]
        refine ⟨e5.2, by simp, fun b1 hb1 b2 hb2 => ?_⟩
        obtain ⟨x0, hx0, rfl⟩ := List.mem_map.1 hb1
        simp at hb2; subst hb2
        exact Nat.ne_of_lt (e5.1 x0 hx0)⟩ (fun n p en hp hen => ?_) ?_
    · rw [f3 yy] at hp
      rcases Nat.lt_or_ge n xs.length with hn | hn
      · rw [List.getElem?_append_left hn] at hp
        rw [Array.getElem?_push, if_neg (by omega)] at hen
        exact e4 n p en hp hen
      · rw [List.getElem?_append_right hn] at hp
        have hn' : n = xs.length := by
          have := (List.getElem?_eq_some_iff.1 hp).1
          simp at this; omega
        subst hn'
        simp at hp
        rw [Array.getElem?_push, if_pos e3.symm] at hen
        cases hp; cases hen
        exact ⟨hq', hy'⟩
    · unfold Instr.mapUpdate
      simp only [Sem.run_bind, run_underlying hund', Result.andThen_ok, hm, MapKept.run_getObj_map e2, hchk, hkey, f2, MapKept.run_setObj_map _ e2]
  · have hjx : j < xs.length := (List.getElem?_eq_some_iff.1 f3).1
    have hej : es[j]? = some en := by simpa using f2
    refine fin (es.modify (0 + j) fun e => { e with key := a.eval x, val := a.eval y }) ck (by rw [f7 yy]; simp [e3]) ⟨fun x0 hx0 => by
        obtain ⟨n, hn, e⟩ := List.getElem_of_mem hx0
        have hn' : n < es.size := by simpa using hn
        rw [Array.getElem_toList, Array.getElem_modify] at e
        have := e5.1 es[n] (by simp)
        rw [← e]; split <;> exact this, by
        have : (es.modify (0 + j) fun e => { e with key := a.eval x, val := a.eval y }).toList.map (·.born) = es.toList.map (·.born) := by
          refine List.ext_getElem (by simp) fun n h1 h2 => ?_
          simp only [List.getElem_map, Array.getElem_toList, Array.getElem_modify]
          split <;> rfl
        rw [this]; exact e5.2⟩ (fun n p' en' hp hen => ?_) ?_
    · rw [f7 yy, List.getElem?_set] at hp
      rw [Array.getElem?_modify] at hen
      by_cases hnj : j = n
      · subst hnj
        rw [if_pos rfl, if_pos hjx] at hp
        rw [if_pos (by omega), hej] at hen
        cases hp; cases hen
        exact ⟨hq', hy'⟩
      · rw [if_neg hnj] at hp
        rw [if_neg (by omega)] at hen
        exact e4 n p' en' hp hen
    · have hk0 : ((es[0 + j]?).map (·.key)).getD (a.eval x) = a.eval x := by rw [Nat.zero_add, hej]; exact f5
      unfold Instr.mapUpdate
      simp only [Sem.run_bind, run_underlying hund', Result.andThen_ok, hm, MapKept.run_getObj_map e2, hchk, hkey, f1, hk0, Instr.keyThatStays, f6, if_true, Sem.run_pure, MapKept.run_setObj_map _ e2]
theorem upd_sound {K} (hT : TabOk P T) (st : AS) {g : Gh} (s : St K st.heap g w) (t : TypeId) (m x y : Operand) (ho : o.op = .mapUpdate t m x y) (u v z : AVal) (hu : Rep st.heap g w u (a.eval m)) (hv : Rep st.heap g w v (a.eval x)) (hz : Rep st.heap g w z (a.eval y))
    (k : AS → Option α) (hk : evUpd T t u v z st.heap (fun h => k { st with heap := h }) = some r) :
    ∃ st' w', k st' = some r ∧ st'.tmps = st.tmps ∧ St K st'.heap g w' ∧ Le K st.heap g w st'.heap g w' ∧ (execOp a.eval o).run P w = .ok .skip w' := by
  unfold evUpd at hk
  split at hk
  · rename_i kt vt i hund
    split at hk
    · rename_i t' ks vs xs hh
      split at hk
      · rename_i hc
        split at hk
        · rename_i q yy hq hy
          exact upd_core hT st s t m x y ho hu hv hz k hund (getD_some (by simp) hh) hc hq hy hk
        · cases hk
      · cases hk
    · cases hk
  · cases hk
theorem new_map {K} (s : St K h g w) (t : TypeId) (ks vs : Sh) :
    Le K h g w (h ++ [.row true t (.mp ks vs) []]) (g.at h.length (.map (some w.heap.size))) (w.alloc (.map #[] 0)) ∧
    St K (h ++ [.row true t (.mp ks vs) []]) (g.at h.length (.map (some w.heap.size))) (w.alloc (.map #[] 0)) ∧
    Rep (h ++ [.row true t (.mp ks vs) []]) (g.at h.length (.map (some w.heap.size))) (w.alloc (.map #[] 0)) (.own h.length) (.map (some w.heap.size)) := by
  have hb : Below w.heap.size w (w.alloc (.map #[] 0)) := (Below.refl _ _).alloc (Nat.le_refl _) _
  have l : Le K h g w (h ++ [.row true t (.mp ks vs) []]) (g.at h.length (.map (some w.heap.size))) (w.alloc (.map #[] 0)) := le_grow s _ _ hb
  refine ⟨l, s.grow _ _ l (fun i n ai hn => Below.heap_alloc w _ n (s.sep i n ai hn).2.2) ?_ ?_, .own _ _ (Here.of (List.getElem?_concat_length ..) (by simp)) rfl fun wr t' e' xs' hx => (g.at_same _ _).symm⟩
  · exact ⟨w.heap.size, #[], 0, g.at_same _ _, heap_alloc_new w _, rfl, ⟨by simp, by simp⟩, fun n p en hp => by simp at hp⟩
  · intro n hn
    simp only [blockOf, Option.some.injEq] at hn
    subst hn
    exact ⟨⟨fun hk => Nat.lt_irrefl _ (s.klow _ hk), fun hm => Nat.lt_irrefl _ (s.low _ hm), by simp⟩, fun i ai hi => Nat.lt_irrefl _ (s.sep i _ ai hi).2.2⟩
theorem mkmap_sound {K} (st : AS) {g : Gh} (s : St K st.heap g w) (t : TypeId) (ho : o.op = .makeMap t none) (k : AVal → AS → Option α) (hk : evMkMap T t st.heap (fun v h => k v { st with heap := h }) = some r) : Good K P o a st g w k r := by
  unfold evMkMap at hk
  split at hk
  · split at hk
    · rename_i ks vs _ _
      obtain ⟨l, s', rp⟩ := new_map s t ks vs
      exact ⟨_, _, _, _, _, hk, rfl, s', l, rp, by simp [execOp, ho, Instr.makeMap]⟩
    · cases hk
  · cases hk
theorem lenM_sound {K} (s : St K h g w) (b : Builtin) (hb : b = .len) (args : Array Operand) (ts : Array TypeId) (x : Operand) (t kt vt : TypeId) (ha : args.toList = [x]) (hts : ts.toList = [t])
    (ho : o.op = .call { callee := .builtin b, args, argTypes := ts }) (u : AVal) (n : Int) (hu : Rep h g w u (a.eval x)) (hl : evLenM h u = some n) (ht : P.underlying t = some (.map kt vt)) :
    (execOp a.eval o).run P w = .ok (.value (.int .i64 n)) w := by
  subst hb
  obtain ⟨args⟩ := args
  obtain ⟨ts⟩ := ts
  simp only at ha hts
  subst ha; subst hts
  unfold evLenM at hl
  split at hl
  · rename_i i
    split at hl
    · rename_i wr t' ks vs xs hh
      cases hl
      have hi := getD_some (by simp) hh
      obtain ⟨rr, es, ck, e1, e2, e3, e5, e4⟩ : RowOk h g w (g.ρ i) t' (.mp ks vs) xs := s.blk i _ hi
      have hm : a.eval x = .map (some rr) := by rw [rep_own hu hi]; exact e1
      simp [execOp, ho, resolve, invoke, builtin, Builtin.len_, run_underlying ht, hm, MapKept.run_getObj_map e2, goInt, e3]
    · cases hl
  · cases hl
end
end Go.Proofs.Ytcbfmkfmdcabmaa

namespace Go.Proofs.Ytcbfmkfmdcabmaa
open Go.RowKit
section
variable {ro : Option Nat} {P : Program} {T : Tab} {env : Env} {o : Oper} {a : Act} {w : World} {α : Type} {r : α} {K : Nat → Prop} {st : AS} {g : Gh} {k : AExit → AVal → AS → Option α} {next : Act → World → Prop} {Q : Exit → Act → World → Prop}
theorem getL_rep {vs : List AVal} {arr : Array Value} (hl : vs.length = arr.size) {h : List ABlk} (hr : ∀ (j : Nat) c x, vs[j]? = some c → arr[j]? = some x → Rep h g w c x) {ix : Nat} {v : AVal} (hv : vs[ix]? = some v) :
    ∃ x, arr[ix]? = some x ∧ Rep h g w v x := by
  have hlt := (List.getElem?_eq_some_iff.1 hv).1
  have hx : arr[ix]? = some arr[ix] := Array.getElem?_eq_getElem (by omega)
  exact ⟨_, hx, hr ix v _ hv hx⟩
theorem evOp_wp (hT : TabOk P T) (hE : EnvOk P env) (s : St K st.heap g w) (htr : TRep st.heap g w st.tmps a.tmps) (dr : Bool) (hk : evOp real T env dr o st k = some r) (c : OpCont K P o a st g w k r next Q) : o.wpIn (FW ro) 0 P a w next Q := by
  unfold evOp evOpH at hk
  split at hk
  · rename_i x ho
    exact same_wp s c hk (htr.ev x) (by simp [execOp, ho])
  · rename_i x ho
    have hr := htr.ev x
    have hrun : (execOp a.eval o).run P w = .ok (.value (a.eval x)) w := by simp [execOp, ho]
    split at hk
    · rename_i et hev hund
      rw [hev] at hr
      split at hk
      · rename_i e hsh
        split at hk
        · rename_i hc
          cases hnz : env.nz
          · rw [hnz, cond_false] at hk
            obtain ⟨l, s', hp⟩ := nil_row s et e hc.2.2
            refine wp_value hrun (c.on _ _ _ _ _ hk rfl s' l ?_)
            rw [rep_nils hr]; exact hp
          · rw [hnz, cond_true] at hk
            refine wp_value hrun (c.on _ _ g w _ hk rfl s .refl ?_)
            rw [rep_nils hr]; exact .ro0 e none 0 (Nat.zero_le _) fun _ => rfl
        · exact same_wp s c hk hr hrun
      · exact same_wp s c hk hr hrun
    · exact same_wp s c hk hr hrun
  · rename_i cc x y ho
    split at hk
    · rename_i t hev
      have hc := htr.ev cc
      rw [hev] at hc
      have hcv := rep_bool hc
      have hrun : (execOp a.eval o).run P w = .ok (.value (if t then a.eval x else a.eval y)) w := by
        simp [execOp, ho, hcv, asBool]
      split at hk
      · rename_i u v hu hv
        refine same_wp s c hk ?_ hrun
        have h1 := htr.ev x; rw [hu] at h1
        have h2 := htr.ev y; rw [hv] at h2
        cases t
        · exact h2
        · exact h1
      · simp only [real] at hk
        cases t
        · exact same_wp s c hk (htr.ev y) hrun
        · exact same_wp s c hk (htr.ev x) hrun
    · cases hk
  · rename_i t ho
    split at hk
    · rename_i z hz
      split at hk
      · rename_i hs
        exact (alloc_sound hT st s dr t ho hz hs (fun v s => k .normal v s) hk).wp c
      · cases hk
    · cases hk
  · rename_i t x ho
    split at hk
    · rename_i hs
      exact (box_sound st s htr (dr || !env.few) t x ho hs (fun v s => k .normal v s) hk).wp c
    · cases hk
  · rename_i t parts ho
    split at hk
    · rename_i z pl hz hpl
      split at hk
      · cases hk
      · rename_i hza
        split at hk
        · rename_i cs hf
          obtain ⟨v, h1, h2⟩ := build_sound (P := P) hT st htr t parts ho hz hpl (by simpa using hza) hf
          cases hd : (dr || !env.nrw)
          · rw [hd] at hk
            simp only [cond_false] at hk
            obtain ⟨g', l, s', hl, hr⟩ := nil_rows T cs (leavesT T 8 t) st.heap g s
            cases h1 with
            | agg _ arr hlen hcells =>
              refine wp_value h2 (c.on _ _ g' w _ hk rfl s' l (.agg _ arr (by rw [hl]; exact hlen) fun j c' x hc' hx => ?_))
              have hj : j < cs.length := by have := (List.getElem?_eq_some_iff.1 hc').1; omega
              exact (hr j _ c' x (List.getElem?_eq_getElem hj) hc' (hcells j _ x (List.getElem?_eq_getElem hj) hx)).1
          · rw [hd] at hk; exact same_wp s c hk h1 h2
        · cases hk
    · cases hk
  · rename_i t len parts ho
    split at hk
    · rename_i et hund
      split at hk
      · rename_i e z hsh hz
        split at hk
        · rename_i hc
          split at hk
          · cases hk
          · rename_i cs hf
            split at hk
            · rename_i hcs
              split at hk
              · cases hk
              · rename_i us hp
                split at hk
                · rename_i h' xs hkill hm
                  exact (buildSlice_sound hT st s htr t et len parts ho hund e z hz hc.2 hc.1 hf hcs hp hkill hm (fun v s => k .normal v s) hk).wp c
                · cases hk
            · cases hk
        · cases hk
      · cases hk
    · cases hk
  · rename_i t x ho
    split at hk
    · rename_i cs hcs
      split at hk
      · rename_i v hv
        obtain ⟨z, h1, h2⟩ := load_sound (P := P) hT s t x ho _ v cs (htr.ev x) hcs hv
        exact same_wp s c hk h1 h2
      · cases hk
    · cases hk
  · rename_i t x y ho
    obtain ⟨st', w', h1, h2, h3, h4, h5⟩ := store_sound hT st s t x y ho _ _ (htr.ev x) (htr.ev y) (fun s' => k .normal .undef s') hk
    exact wp_skip' h5 (c.on _ st' _ w' _ h1 h2 h3 h4 .undef)
  · rename_i x ho
    cases hl : (st.ev x).livePtr st.heap
    · rw [hl] at hk; cases hk
    · rw [hl] at hk
      obtain ⟨b, n, hp, _⟩ := live_add s (htr.ev x) hl
      exact same_wp s c hk (htr.ev x) (by simp [execOp, ho, hp])
  · rename_i op t x y yt ho
    obtain ⟨v, z, h1, h2, h3⟩ := bin_sound hT op t yt x y ho _ _ (fun v => k .normal v st) (htr.ev x) (htr.ev y) hk
    exact same_wp s c h1 h2 h3
  · rename_i op t x ho
    obtain ⟨v, z, h1, h2, h3⟩ := un_sound (P := P) op t x ho _ (fun v => k .normal v st) (htr.ev x) hk
    exact same_wp s c h1 h2 h3
  · rename_i src dst x ho
    split at hk
    · rename_i i n d j hx hsrc hdst
      have hr := htr.ev x
      rw [hx] at hr
      have hv := rep_int hr
      have hd := und_int hT hdst
      have hsd : ∃ d', P.underlying src = some d' := by
        cases d with
        | int k => exact ⟨_, und_int hT hsrc⟩
        | bool => exact ⟨_, und_bool hT hsrc⟩
        | str => exact ⟨_, und_str hT hsrc⟩
        | sl e => exact ⟨_, und_sl hT hsrc⟩
        | map x y => exact ⟨_, und_map hT hsrc⟩
        | arr n e => exact ⟨_, und_arr hT hsrc⟩
        | recd l => exact let ⟨fs, h, _⟩ := und_recd hT hsrc; ⟨_, h⟩
        | ifc => exact let ⟨m, h⟩ := und_ifc hT hsrc; ⟨_, h⟩
        | other => exact let ⟨d, h, _⟩ := und_other hT hsrc; ⟨_, h⟩
      obtain ⟨d', hd'⟩ := hsd
      exact same_wp s c hk (.int _ _) (by simp [execOp, ho, convert, run_underlying hd', run_underlying hd, hv, Conv.intToInt])
    · cases hk
  · rename_i t x ho
    split at hk
    · cases hk
    · rename_i d hne hund
      have hsd : ∃ d', P.underlying t = some d' ∧ ∀ m, d' ≠ .interface m := by
        cases d with
        | int k => exact ⟨_, und_int hT hund, fun m e => by cases e⟩
        | bool => exact ⟨_, und_bool hT hund, fun m e => by cases e⟩
        | str => exact ⟨_, und_str hT hund, fun m e => by cases e⟩
        | sl e => exact ⟨_, und_sl hT hund, fun m e => by cases e⟩
        | map x y => exact ⟨_, und_map hT hund, fun m e => by cases e⟩
        | arr n e => exact ⟨_, und_arr hT hund, fun m e => by cases e⟩
        | recd l => exact let ⟨fs, h, _⟩ := und_recd hT hund; ⟨_, h, fun m e => by cases e⟩
        | ifc => exact absurd rfl hne
        | other => exact let ⟨d, h, _, _, h5⟩ := und_other hT hund; ⟨_, h, h5⟩
      obtain ⟨d', hd', hni⟩ := hsd
      refine same_wp s c hk (.ifc t _ _ (htr.ev x)) ?_
      cases d' <;> first | exact absurd rfl (hni _) | simp [execOp, ho, Instr.makeInterface, run_underlying hd']
    · cases hk
  · rename_i f first caps ho
    split at hk
    · rename_i hz
      have hf : first = #[] := Array.eq_empty_of_size_eq_zero hz
      subst hf
      refine same_wp s c hk (.fn f _ (caps.map a.eval) (by simp) fun j cc x hc hx => ops_rep htr caps.toList j cc x hc (by simpa using hx)) ?_
      simp [execOp, ho, Instr.makeFunc]
    · cases hk
  · rename_i t x y ho
    exact (make_sound hT st s t x y ho _ _ (htr.ev x) (htr.ev y) (fun v s' => k .normal v s') hk).wp c
  · rename_i t x lo hi ho
    exact (slice_sound hT st s htr dr t x lo hi ho (fun v s' => k .normal v s') hk).wp c
  · rename_i t x f ho
    obtain ⟨v, z, h1, h2, h3⟩ := fieldAddr_sound (P := P) hT s t x f ho _ (fun v => k .normal v st) (htr.ev x) hk
    exact same_wp s c h1 h2 h3
  · rename_i t x f ho
    split at hk
    · rename_i v hv
      obtain ⟨z, h1, h2⟩ := field_sound (P := P) hT t x f ho _ v (htr.ev x) hv
      exact same_wp s c hk h1 h2
    · cases hk
  · rename_i t x ix ho
    obtain ⟨v, z, h1, h2, h3⟩ := indexAddr_sound (P := P) hT s t x ix ho _ _ (fun v => k .normal v st) (htr.ev x) (htr.ev ix) hk
    exact same_wp s c h1 h2 h3
  · rename_i t x ix ho
    obtain ⟨v, z, h1, h2, h3⟩ := index_sound (P := P) hT t x ix ho _ _ (fun v => k .normal v st) (htr.ev x) (htr.ev ix) hk
    exact same_wp s c h1 h2 h3
  · rename_i x ix ho
    split at hk
    · rename_i vs hx
      split at hk
      · rename_i v hv
        have hr := htr.ev x
        rw [hx] at hr
        obtain ⟨arr, harr, hl, hrr⟩ : ∃ arr, a.eval x = .tuple arr ∧ vs.length = arr.size ∧ ∀ (j : Nat) c x, vs[j]? = some c → arr[j]? = some x → Rep st.heap g w c x := by
          generalize a.eval x = q at hr
          cases hr with | tup _ arr a1 a2 => exact ⟨arr, rfl, a1, a2⟩
        obtain ⟨z, h1, h2⟩ := getL_rep hl hrr hv
        exact same_wp s c hk h2 (by simp [execOp, ho, harr, Instr.extract, h1])
      · cases hk
    · cases hk
  · rename_i t ho
    exact (mkmap_sound st s t ho (fun v s' => k .normal v s') hk).wp c
  · rename_i t m x ok ho
    obtain ⟨v, z, h1, h2, h3⟩ := look_sound (P := P) hT s t m x ok ho _ _ (htr.ev m) (htr.ev x) (fun v => k .normal v st) hk
    exact same_wp s c h1 h2 h3
  · rename_i t m x y ho
    obtain ⟨st', w', h1, h2, h3, h4, h5⟩ := upd_sound (P := P) hT st s t m x y ho _ _ _ (htr.ev m) (htr.ev x) (htr.ev y) (fun s => k .normal .undef s) hk
    exact wp_skip' h5 (c.on _ _ _ _ _ h1 h2 h3 h4 .undef)
  · rename_i args ts ho
    split at hk
    · rename_i x t hargs hts
      split at hk
      · rename_i hund
        split at hk
        · rename_i n hlen
          exact same_wp s c hk (.int _ _) (lenM_sound s .len rfl args ts x t _ _ hargs hts ho _ n (htr.ev x) hlen (und_map hT hund))
        · cases hk
      · rename_i e n hund hlen
        split at hk
        · cases hk
        · rename_i hne
          exact same_wp s c hk (.int _ _) (len_sound s .len rfl args ts x t hargs hts ho _ n (htr.ev x) hlen (.inl ⟨_, und_sl hT hund, fun q hq => hne q hq⟩))
      · rename_i n hund hlen
        split at hk
        · rename_i q hq
          exact same_wp s c hk (.int _ _) (len_sound s .len rfl args ts x t hargs hts ho _ n (htr.ev x) hlen (.inr ⟨und_str hT hund, _, hq⟩))
        · cases hk
      · cases hk
    · cases hk
  · rename_i args ts ho
    split at hk
    · rename_i j x l hargs
      split at hk
      · rename_i n hn
        exact same_wp s c hk (.int _ _) (min_sound htr .min rfl args ts ho j x n l hargs hn)
      · cases hk
    · cases hk
  · rename_i args ts ho
    split at hk
    · rename_i j x l hargs
      split at hk
      · rename_i n hn
        exact same_wp s c hk (.int _ _) (max_sound htr .max rfl args ts ho j x n l hargs hn)
      · cases hk
    · cases hk
  · rename_i args ts ho
    split at hk
    · rename_i x y t u hargs hts
      split at hk
      · rename_i htu
        subst htu
        exact (append_sound hT st s .append rfl t args ts x y hargs hts ho _ _ (htr.ev x) (htr.ev y) (fun v s' => k .normal v s') hk).wp c
      · cases hk
    · cases hk
  · rename_i f args ts ho
    split at hk
    · rename_i fid caps hf
      exact call_wp hE s htr dr f args ts ho fid caps hf hk c
    · rename_i i hf
      cases hd : (dr && !env.few)
      · rw [hd] at hk; exact yld_wp hE s htr f args ts ho _ hf hk c
      · rw [hd] at hk; cases hk
    · cases hk
  · rename_i x ho
    split at hk
    · rename_i t v hx
      cases dr
      · have hr := htr.ev x
        rw [hx] at hr
        obtain ⟨y, hy, hry⟩ : ∃ y, a.eval x = .iface t y ∧ Rep st.heap g w v y := by
          generalize a.eval x = q at hr
          cases hr with | ifc _ _ y h => exact ⟨y, rfl, h⟩
        have hrun : (execOp a.eval o).run P w = .halt (.panic (.iface t y)) w := by simp [execOp, ho, Instr.panic, hy]
        refine ⟨fun _ _ => trivial, ?_⟩
        rw [semAt_of hrun (fun d w' e => by cases e) (fun d c w' hd _ => by rw [ho] at hd; cases hd), Oper.uponIn_panic]
        exact c.pan _ _ st g w _ hk rfl s .refl (.ifc t v y hry)
      · cases hk
    · cases hk
  · cases hk
end
end Go.Proofs.Ytcbfmkfmdcabmaa

namespace Go.Proofs.Ytcbfmkfmdcabmaa
open Go.RowKit
def XR (h : List ABlk) (g : Gh) (w : World) : AExit → Exit → Prop
  | .normal, .normal => True
  | .exit i, .exit j => i = j
  | .ret, .ret => True
  | .pan v, .panic c => ∃ u, c = [{ v := u, recovered := false }] ∧ Rep h g w v u
  | _, _ => False
structure CCont {α : Type} (K : Nat → Prop) (h0 : List ABlk) (g0 : Gh) (w0 : World) (ds : List Deferred) (k : AExit → AS → Option α) (r : α) (Q : Exit → Act → World → Prop) : Prop where
  on : ∀ x (st' : AS) g' (a' : Act) w' e, k x st' = some r → St K st'.heap g' w' → Le K h0 g0 w0 st'.heap g' w' → TRep st'.heap g' w' st'.tmps a'.tmps → a'.defers = ds → XR st'.heap g' w' x e → Q e a' w'
theorem put_defers (a : Act) (dst : Option Tmp) (v : Value) : (a.put dst v).defers = a.defers := by cases dst <;> rfl
theorem put_heap (s : AS) (dst : Option Nat) (v : AVal) : (s.put dst v).heap = s.heap := by cases dst <;> rfl
theorem TRep.lit {h g w} {ts : List AVal} {tmps : Array Value} (t : TRep h g w ts tmps) {d : Nat} {v : AVal} (hd : ts.getD d .any = v) (hv : v ≠ .any) {u : AVal} (hu : ∀ x, Rep h g w v x → Rep h g w u x) : TRep h g w (ts.set d u) tmps := by
  refine ⟨by simpa using t.1, fun j c x hc hx => ?_⟩
  rw [List.getElem?_set] at hc
  split at hc
  · rename_i e
    subst e
    split at hc
    · rename_i hlt
      cases hc
      refine hu x (t.2 d v x ?_ hx)
      rw [List.getD_eq_getElem?_getD, List.getElem?_eq_getElem hlt] at hd
      rw [List.getElem?_eq_getElem hlt]; simpa using hd
    · cases hc
  · exact t.2 j c x hc hx
section
variable {ro : Option Nat} {P : Program} {T : Tab} {env : Env} {α : Type} {r : α} {K : Nat → Prop} {Q : Exit → Act → World → Prop} {ops : Array Oper}
theorem yielded_some {a : Act} {j d : Nat} (hd : (ops[j]?).bind (·.dst) = some d) : yielded ops a.tmps j = match a.tmps.getD d Go.undef with
    | .bool b => some b
    | _ => none := by
  unfold yielded
  rw [hd, Option.bind_some]
  have e : a.tmps.getD d Go.undef = (a.tmps[d]?).getD Go.undef := by simp [Array.getD_eq_getD_getElem?]
  rw [e]
  cases a.tmps[d]? with
  | none => rfl
  | some v => cases v <;> rfl
theorem evOps_wp (hT : TabOk P T) (hE : EnvOk P env) (dr : Bool) (k : AExit → AS → Option α) (h0 : List ABlk) (g0 : Gh) (w0 : World) (ds : List Deferred) (c : CCont K h0 g0 w0 ds k r Q) :
    ∀ (rest : List Oper) (i : Nat) (st : AS) (a : Act) (w : World) (g : Gh), ops.toList.drop i = rest → evOps real T env dr ops rest st k = some r → St K st.heap g w → Le K h0 g0 w0 st.heap g w → TRep st.heap g w st.tmps a.tmps → a.defers = ds →
      wpOpsIn (FW ro) 0 P ops Q (List.range' i rest.length) a w
  | [], i, st, a, w, g, _, hk, s, l, t, hd => by
    simp only [evOps] at hk
    exact c.on .normal st g a w .normal hk s l t hd trivial
  | o :: rest, i, st, a, w, g, hdr, hk, s, l, t, hd => by
    have hio : ops[i]? = some o := by
      have : (ops.toList.drop i)[0]? = some o := by rw [hdr]; rfl
      rw [List.getElem?_drop] at this; simpa using this
    have hnext : ops.toList.drop (i + 1) = rest := by
      rw [← List.drop_drop, hdr]; rfl
    rw [List.length_cons, List.range'_succ]
    simp only [wpOpsIn, hio]
    -- the operation is carried out
    have hgo : ∀ st1 : AS, st1.heap = st.heap → TRep st1.heap g w st1.tmps a.tmps → (evOp real T env dr o st1 fun x v s' =>
        match x with
        | .normal => evOps real T env dr ops rest (s'.put o.dst v) k
        | x => bif dr then none else k x s') = some r → o.wpIn (FW ro) 0 P a w (wpOpsIn (FW ro) 0 P ops Q (List.range' (i + 1) rest.length)) Q := by
      intro st1 hh t1 hk1
      refine evOp_wp (K := K) (g := g) hT hE (by rw [hh]; exact s) t1 dr hk1 ⟨fun v st' g' w' x hkv htm s' l' hr => ?_, fun v u st' g' w' x hkv htm s' l' hr => ?_⟩
      · simp only at hkv
        refine evOps_wp hT hE dr k h0 g0 w0 ds c rest (i + 1) _ (a.put o.dst x) w' g' hnext hkv (by rw [put_heap]; exact s') (by rw [put_heap]; rw [hh] at l'; exact l.trans l') ?_ (by rw [put_defers]; exact hd)
        rw [put_heap]
        have : TRep st'.heap g' w' st'.tmps a.tmps := by rw [htm]; exact t1.mono l'
        exact this.put o.dst hr
      · simp only at hkv
        replace hkv : k (.pan v) st' = some r := by
          cases dr
          · exact hkv
          · cases hkv
        refine c.on (.pan v) st' g' a w' _ hkv s' (by rw [hh] at l'; exact l.trans l') (by rw [htm]; exact t1.mono l') hd ⟨x, rfl, hr⟩
    -- the operation is passed over
    have hskip : ∀ st1 : AS, st1.heap = st.heap → TRep st1.heap g w st1.tmps a.tmps → evOps real T env dr ops rest (st1.put o.dst .undef) k = some r → wpOpsIn (FW ro) 0 P ops Q (List.range' (i + 1) rest.length) (a.put o.dst Go.undef) w := by
      intro st1 hh t1 hk1
      refine evOps_wp hT hE dr k h0 g0 w0 ds c rest (i + 1) _ _ w g hnext hk1 (by rw [put_heap, hh]; exact s) (by rw [put_heap, hh]; exact l) ?_ (by rw [put_defers]; exact hd)
      rw [put_heap]
      exact t1.put o.dst .undef
    simp only [evOps] at hk
    split at hk
    · rename_i hg
      rw [if_pos (by simp [Region.wanted, hg])]
      exact (hgo st rfl t hk)
    · rename_i j want hg
      split at hk
      · cases hk
      · rename_i d hdd
        have hy := yielded_some (a := a) hdd
        have htg := t.get d
        split at hk
        · rename_i b hb
          have hb' : st.tmps.getD d .any = .bool b := hb
          rw [hb'] at htg
          rw [rep_bool htg] at hy
          simp only at hy
          have hlit : TRep st.heap g w (st.tmps.set d (.bool b)) a.tmps := t.lit hb' (by simp) fun x h => h
          simp only [real] at hk
          cases b
          · simp only [cond_false] at hk
            cases want
            · rw [if_pos (by simp [Region.wanted, hg, hy])]
              exact (hgo (st.put (some d) (.bool false)) rfl hlit hk)
            · rw [if_neg (by simp [Region.wanted, hg, hy])]
              exact ⟨fun _ _ => trivial, hskip (st.put (some d) (.bool false)) rfl hlit hk⟩
          · simp only [cond_true] at hk
            cases want
            · rw [if_neg (by simp [Region.wanted, hg, hy])]
              exact ⟨fun _ _ => trivial, hskip (st.put (some d) (.bool true)) rfl hlit hk⟩
            · rw [if_pos (by simp [Region.wanted, hg, hy])]
              exact (hgo (st.put (some d) (.bool true)) rfl hlit hk)
        · rename_i hb
          have hb' : st.tmps.getD d .any = .undef := hb
          rw [hb'] at htg
          have hu : a.tmps.getD d Go.undef = Go.undef := by generalize a.tmps.getD d Go.undef = q at htg; cases htg; rfl
          rw [hu] at hy
          rw [if_neg (by simp [Region.wanted, hg, hy, Go.undef])]
          exact ⟨fun _ _ => trivial, hskip st rfl t hk⟩
        · cases hk
theorem region_wp (hT : TabOk P T) (hE : EnvOk P env) (id : Nat) (k : AExit → AS → Option α) (h0 : List ABlk) (g0 : Gh) (w0 : World) (ds : List Deferred) (c : CCont K h0 g0 w0 ds k r Q) (st : AS) (a : Act) (w : World) (g : Gh)
    (hk : evOps real T env false ops ops.toList st k = some r) (s : St K st.heap g w) (l : Le K h0 g0 w0 st.heap g w) (t : TRep st.heap g w st.tmps a.tmps) (hd : a.defers = ds) : (Code.region id ops false).wpIn (FW ro) 0 P Q a w := by
  refine wpIn_region ?_
  have := evOps_wp (ro := ro) hT hE false k h0 g0 w0 ds c ops.toList 0 st a w g rfl hk s l t hd
  rw [List.range_eq_range']
  simpa using this
end
end Go.Proofs.Ytcbfmkfmdcabmaa

namespace Go.Proofs.Ytcbfmkfmdcabmaa
section
variable {P : Program} {T : Tab} {env : Env} {α : Type}
theorem bif_bind {α β : Type} (b : Bool) (x y : Option α) (k : α → Option β) : (bif b then x else y).bind k = bif b then x.bind k else y.bind k := by cases b <;> rfl
theorem ite_bind' {α β : Type} (p : Prop) [Decidable p] (x y : Option α) (k : α → Option β) : (if p then x else y).bind k = if p then x.bind k else y.bind k := by split <;> rfl
theorem real_iff' {α : Type} (p : Prop) (d : Decidable p) (x y : Option α) : real.iff p d x y = if p then x else y := rfl
theorem evBin_nat (op : BinOp) (t : TypeId) (x y : AVal) (k : AVal → Option α) : evBin real T op t x y k = (evBin real T op t x y some).bind k := by
  unfold evBin real
  split
  · cases op <;> simp only [ite_bind', Option.bind_some, Option.bind_none]
  · split
    · cases op <;> simp only [Option.bind_some, Option.bind_none]
    · rfl
  · split
    · cases op <;> simp only [Option.bind_some, Option.bind_none]
    · rfl
  · split
    · split <;> rfl
    · split <;> rfl
    · rfl
  · split
    · split <;> simp only [ite_bind', Option.bind_some, Option.bind_none]
    · rfl
  · split
    · split <;> rfl
    · rfl
  · rfl
theorem byIdx_nat (n : Int) {β : Type} (f : Nat → Option α) (k : α → Option β) : ∀ (m i : Nat), byIdx real n (fun q => (f q).bind k) m i = (byIdx real n f m i).bind k
  | 0, i => rfl
  | m + 1, i => by rw [byIdx_real, byIdx_real, bif_bind, byIdx_nat n f k m (i + 1)]
theorem evUn_nat (op : UnOp) (x : AVal) (k : AVal → Option α) : evUn op x k = (evUn op x some).bind k := by
  unfold evUn
  split <;> rfl
theorem evStore_nat (t : TypeId) (a v : AVal) (h : List ABlk) (k : List ABlk → Option α) : evStore T t a v h k = (evStore T t a v h some).bind k := by
  unfold evStore
  split
  · split
    · split
      · split
        · simp only [ite_bind', Option.bind_some, Option.bind_none]
        · rfl
      · split
        · split
          · split <;> rfl
          · rfl
        · rfl
      · rfl
    · rfl
  · rfl
theorem evAppend_nat (t : TypeId) (x y : AVal) (h : List ABlk) (k : AVal → List ABlk → Option α) : evAppend real T t x y h k = (evAppend real T t x y h fun v h => some (v, h)).bind fun p => k p.1 p.2 := by
  unfold evAppend real
  split
  · split
    · rfl
    · split
      · rfl
      · split
        · split
          · rfl
          · split
            · rfl
            · split
              · simp only [ite_bind', Option.bind_some, Option.bind_none]
              · rfl
        · rfl
  · rfl
theorem evMake_nat (t : TypeId) (x y : AVal) (h : List ABlk) (k : AVal → List ABlk → Option α) : evMake real T t x y h k = (evMake real T t x y h fun v h => some (v, h)).bind fun p => k p.1 p.2 := by
  unfold evMake real
  split
  · split
    · split
      · split
        · simp only [ite_bind', Option.bind_some, Option.bind_none]
        · rfl
      · rfl
    · rfl
  · rfl
theorem evCut_nat (et : TypeId) (lo hi : Option AVal) (e : Sh) (xs : List e.ty) (h : List ABlk) (k : AVal → List ABlk → Option α) : evCut real T et lo hi e xs h k = (evCut real T et lo hi e xs h fun v h => some (v, h)).bind fun p => k p.1 p.2 := by
  unfold evCut real
  split
  · split <;> simp only [ite_bind', Option.bind_some, Option.bind_none]
  · rfl
theorem evSlice_nat (dr : Bool) (t : TypeId) (x : AVal) (lo hi : Option AVal) (h : List ABlk) (k : AVal → List ABlk → Option α) : evSlice real T dr t x lo hi h k = (evSlice real T dr t x lo hi h fun v h => some (v, h)).bind fun p => k p.1 p.2 := by
  unfold evSlice
  split
  · split
    · exact evCut_nat ..
    · split
      · cases dr
        · exact evCut_nat ..
        · rfl
      · rfl
    · rfl
  · rfl
theorem evIndexAddr_nat (t : TypeId) (x y : AVal) (h : List ABlk) (k : AVal → Option α) : evIndexAddr real T t x y h k = (evIndexAddr real T t x y h some).bind k := by
  unfold evIndexAddr
  split
  · split
    · split
      · simp only [real_iff', ite_bind', Option.bind_some, Option.bind_none]
      · split
        · simp only [real_iff', ite_bind', Option.bind_some, Option.bind_none]
        · rfl
      · rfl
    · simp only [real_iff', ite_bind', bif_bind, Option.bind_none]
      split
      · cases x <;> first | rfl | simp only [← byIdx_nat, Option.bind_some, Option.bind_none]
      · rfl
    · rfl
  · rfl
theorem evLook_nat (t : TypeId) (x y : AVal) (ok : Bool) (h : List ABlk) (k : AVal → Option α) : evLook T t x y ok h k = (evLook T t x y ok h some).bind k := by
  unfold evLook
  split
  · split
    · split
      · split
        · split <;> rfl
        · rfl
      · rfl
    · rfl
  · rfl
theorem evUpd_nat (t : TypeId) (x y z : AVal) (h : List ABlk) (k : List ABlk → Option α) : evUpd T t x y z h k = (evUpd T t x y z h some).bind k := by
  unfold evUpd
  split
  · split
    · split
      · split <;> rfl
      · rfl
    · rfl
  · rfl
theorem evMkMap_nat (t : TypeId) (h : List ABlk) (k : AVal → List ABlk → Option α) : evMkMap T t h k = (evMkMap T t h fun v h => some (v, h)).bind fun p => k p.1 p.2 := by
  unfold evMkMap
  split
  · split <;> rfl
  · rfl
theorem evIndexV_nat (t : TypeId) (x y : AVal) (k : AVal → Option α) : evIndexV real T t x y k = (evIndexV real T t x y some).bind k := by
  unfold evIndexV
  split
  · split
    · split
      · split
        · simp only [real_iff', ite_bind', Option.bind_some, Option.bind_none]
        · rfl
      · rfl
    · rfl
  · rfl
theorem evFieldAddr_nat (t : TypeId) (x : AVal) (f : Nat) (h : List ABlk) (k : AVal → Option α) : evFieldAddr T t x f h k = (evFieldAddr T t x f h some).bind k := by
  unfold evFieldAddr
  split
  · split
    · split
      · rfl
      · simp only [bif_bind, Option.bind_none]
        cases x <;> rfl
    · rfl
  · rfl
theorem evCall_nat (hE : EnvOk P env) (dr : Bool) (f : FuncId) (caps args : List AVal) (h : List ABlk) (k : AExit → AVal → List ABlk → Option α) :
    evCall env dr f caps args h k = (evCall env dr f caps args h fun x v h => some (x, v, h)).bind fun p => k p.1 p.2.1 p.2.2 := by
  unfold evCall
  split
  · cases dr && !env.few
    · exact hE.cv.nat ..
    · rfl
  · rename_i S hS
    cases !dr && env.inn f
    · exact evPure_nat (hE.fs f S hS) ..
    · exact hE.cv.nat ..
theorem evOpH_nat (hE : EnvOk P env) (dr : Bool) (op : Op) (ty : TypeId) (ρ : Operand → AVal) (h : List ABlk) (k : AExit → AVal → List ABlk → Option α) :
    evOpH real T env dr op ty ρ h k = (evOpH real T env dr op ty ρ h fun x v h => some (x, v, h)).bind fun p => k p.1 p.2.1 p.2.2 := by
  unfold evOpH
  split
  · rfl
  · split
    · split
      · split
        · cases env.nz <;> rfl
        · rfl
      · rfl
    · rfl
  · split
    · split
      · rfl
      · simp only [real, bif_bind, Option.bind_some]
    · rfl
  · split
    · split
      · cases dr <;> rfl
      · rfl
    · rfl
  · simp only [ite_bind', bif_bind, Option.bind_some, Option.bind_none]
  · split
    · split
      · rfl
      · split
        · cases (dr || !env.nrw) <;> rfl
        · rfl
    · rfl
  · split
    · split
      · split
        · split
          · rfl
          · split
            · split
              · rfl
              · split <;> rfl
            · rfl
        · rfl
      · rfl
    · rfl
  · split
    · split <;> rfl
    · rfl
  · rw [evStore_nat, evStore_nat (k := fun h' => some (AExit.normal, AVal.undef, h'))]
    cases evStore T _ _ _ h some <;> rfl
  · simp only [bif_bind, Option.bind_some, Option.bind_none]
  · rw [evBin_nat, evBin_nat (k := fun v => some (AExit.normal, v, h))]
    cases evBin real T _ _ _ _ some <;> rfl
  · rw [evUn_nat, evUn_nat (k := fun v => some (AExit.normal, v, h))]
    cases evUn _ _ some <;> rfl
  · split <;> rfl
  · split <;> rfl
  · split <;> rfl
  · rw [evMake_nat, evMake_nat (k := fun v h' => some (AExit.normal, v, h'))]
    cases evMake real T _ _ _ h _ <;> rfl
  · rw [evSlice_nat, evSlice_nat (k := fun v h' => some (AExit.normal, v, h'))]
    cases evSlice real T dr _ _ _ _ h _ <;> rfl
  · rw [evFieldAddr_nat, evFieldAddr_nat (k := fun v => some (AExit.normal, v, h))]
    cases evFieldAddr T _ _ _ _ some <;> rfl
  · split <;> rfl
  · rw [evIndexAddr_nat, evIndexAddr_nat (k := fun v => some (AExit.normal, v, h))]
    cases evIndexAddr real T _ _ _ _ some <;> rfl
  · rw [evIndexV_nat, evIndexV_nat (k := fun v => some (AExit.normal, v, h))]
    cases evIndexV real T _ _ _ some <;> rfl
  · split
    · split <;> rfl
    · rfl
  · rw [evMkMap_nat, evMkMap_nat (k := fun v h' => some (AExit.normal, v, h'))]
    cases evMkMap T _ h _ <;> rfl
  · rw [evLook_nat, evLook_nat (k := fun v => some (AExit.normal, v, h))]
    cases evLook T _ _ _ _ h some <;> rfl
  · rw [evUpd_nat, evUpd_nat (k := fun h' => some (AExit.normal, AVal.undef, h'))]
    cases evUpd T _ _ _ _ h some <;> rfl
  · split
    · split
      · split <;> rfl
      · split <;> rfl
      · split <;> rfl
      · rfl
    · rfl
  · split
    · split <;> rfl
    · rfl
  · split
    · split <;> rfl
    · rfl
  · split
    · split
      · rw [evAppend_nat, evAppend_nat (k := fun v h' => some (AExit.normal, v, h'))]
        cases evAppend real T _ _ _ h _ <;> rfl
      · rfl
    · rfl
  · split
    · exact evCall_nat hE ..
    · cases dr && !env.few
      · exact hE.cv.nat ..
      · rfl
    · rfl
  · split
    · simp only [bif_bind, Option.bind_some, Option.bind_none]
    · rfl
  · rfl
end
end Go.Proofs.Ytcbfmkfmdcabmaa
