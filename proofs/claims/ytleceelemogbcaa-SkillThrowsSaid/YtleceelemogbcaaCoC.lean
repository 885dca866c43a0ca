/- contact.Check. -/
import Derived.Test.YtleceelemogbcaaCoB
namespace Go.Proofs.Ytleceelemogbcaa
open Go.RowKit

theorem bad_1 {l : List Bod} {x : Bod} (h : x.ok = false) : x.bad l = true := by simp [Bod.bad, h]
theorem bad_2 {l : List Bod} {x : Bod} (h : decide (x.name ∈ l.map Bod.name) = true) : x.bad l = true := by unfold Bod.bad; rw [h]; simp
theorem bad_3 {l : List Bod} {x : Bod} (h1 : x.out = true) (h : x.rests = false) : x.bad l = true := by simp [Bod.bad, h1, h]
theorem bad_4 {l : List Bod} {x : Bod} (h1 : x.out = true) (h : (x.m.spin != 0) = true) : x.bad l = true := by unfold Bod.bad; rw [h1, h]; simp
theorem good_1 {l : List Bod} {x : Bod} (h1 : x.ok = true) (h2 : decide (x.name ∈ l.map Bod.name) = false) (h3 : x.out = false) : x.bad l = false := by unfold Bod.bad; rw [h1, h2, h3]; rfl
theorem good_2 {l : List Bod} {x : Bod} (h1 : x.ok = true) (h2 : decide (x.name ∈ l.map Bod.name) = false) (h3 : x.rests = true) (h4 : x.m.spin = 0) : x.bad l = false := by unfold Bod.bad; rw [h1, h2, h3, h4]; simp

set_option maxHeartbeats 2000000 in
theorem ccheck_c (bs : List Bod) (v : Value) (w : World) (hv : Bods w v bs) :
    Calls Try.prog 58 #[v] w fun e w' => e = .returned (.int .i64 (errB (sceneB bs))) ∧ Below w.heap.size w w' := by
  have hmm := @run_makeMap Try.prog
  by_cases hl : bs.length ≤ 16
  case neg =>
    have hS : sceneB bs = false := by simp [sceneB, hl]
    rw [hS]
    rcases hv with ⟨_, _, _, rfl⟩ | ⟨b, off, cap, rfl, h0, h1, h2⟩
    · simp at hl
    · have hd : decide ((16 : Int) < (bs.length : Int)) = true := by simp only [decide_eq_true_eq]; omega
      clear h2 hS
      go_enter Try.func58, Try.ntmps58
      go_wp2_with fail
      go_ret
      exact ⟨rfl, Below.refl _ _⟩
  have hS : sceneB bs = bodsOk [] bs := by simp [sceneB, hl]
  have HS := Hid.mk' hS
  clear hS
  have hd : decide ((16 : Int) < (bs.length : Int)) = false := by simp only [decide_eq_false_iff_not]; omega
  rcases hv with ⟨q, cap, rfl, rfl⟩ | ⟨b, off, cap, rfl, h0, h1, h2⟩
  · go_enter Try.func58, Try.ntmps58
    go_wp2_with fail
    go_loop [5, 6, 13] (fun _ _ i => i = .int .i64 0) (fun _ _ _ => 0)
    case atStart => rfl
    case round =>
      subst hrel
      go_wp2_with fail
      go_ret
      exact ⟨by rw [HS.out]; rfl, (Below.refl _ _).alloc (Nat.le_refl _) _⟩
  have hblt : b < w.heap.size := by
    obtain ⟨x, hx⟩ : ∃ x, bs[0]? = some x := ⟨_, List.getElem?_eq_getElem h0⟩
    exact lt_of_cell (h2 0 x hx 0 (by omega))
  have H2 := Hid.mk' h2
  clear h2
  generalize hn : bs.length = n at *
  have HN := Hid.mk' hn
  clear hn
  go_enter Try.func58, Try.ntmps58
  go_wp2_with fail
  go_loopw [5, 6, 13] (fun _ _ i wr => ∃ k : Nat, k ≤ n ∧ i = .int .i64 k ∧ NamesMap wr w.heap.size ((bs.take k).map Bod.name) ∧ Below w.heap.size w wr ∧ Hid (bodsOk [] bs = bodsOk (bs.take k) (bs.drop k))) (fun _ _ i _ => n - (intOf i).toNat)
  case atStart => exact ⟨0, Nat.zero_le _, rfl, names_made w, (Below.refl _ _).alloc (Nat.le_refl _) _, rfl⟩
  case round =>
    obtain ⟨k, hk, rfl, hmap, hbel, hok⟩ := hrel
    by_cases hlt : k < n
    case neg =>
      have hkn : k = n := by omega
      have hfin : bodsOk [] bs = true := by rw [hok.out, hkn, ← HN.out, List.drop_length]; rfl
      have HF := Hid.mk' hfin
      clear hfin hkn hok
      go_wp2_with fail
      go_ret
      exact ⟨by rw [HS.out, HF.out]; rfl, hbel⟩
    obtain ⟨x, hx⟩ : ∃ x, bs[k]? = some x := ⟨_, List.getElem?_eq_getElem (by rw [HN.out]; exact hlt)⟩
    have hdrop : bs.drop k = x :: bs.drop (k + 1) := by
      rw [List.drop_eq_getElem_cons (by rw [HN.out]; exact hlt)]
      rw [List.getElem?_eq_getElem (by rw [HN.out]; exact hlt), Option.some.injEq] at hx
      rw [hx]
    have htake : bs.take (k + 1) = bs.take k ++ [x] := by
      rw [List.take_add_one, hx]; rfl
    have hstep : bodsOk [] bs = (!x.bad (bs.take k) && bodsOk (bs.take (k + 1)) (bs.drop (k + 1))) := by
      rw [hok.out, hdrop, htake]; rfl
    have HST := Hid.mk' hstep
    have HTK := Hid.mk' htake
    have hc := fun j (hj : j < 8) => (hbel.cell (p := ⟨b, off + k * 8 + j, none⟩) hblt).trans (H2.out k x hx j hj)
    clear hstep htake hdrop hok hx
    obtain ⟨team, num, m, out⟩ := x
    obtain ⟨ax, ay, sx, sy, spin⟩ := m
    have c0 := hc 0 (by omega)
    have c1 := hc 1 (by omega)
    have c2 := hc 2 (by omega)
    have c3 := hc 3 (by omega)
    have c4 := hc 4 (by omega)
    have c5 := hc 5 (by omega)
    have c6 := hc 6 (by omega)
    have c7 := hc 7 (by omega)
    simp only [Bod.cells, List.getElem?_toArray, List.getElem?_cons_zero, List.getElem?_cons_succ, Nat.add_zero] at c0 c1 c2 c3 c4 c5 c6 c7
    clear hc
    cases e1 : Bod.ok ⟨team, num, ⟨ax, ay, sx, sy, spin⟩, out⟩
    case false =>
      have HOK := Hid.mk' e1
      have HMEM : Hid (decide ((team, num) ∈ (bs.take k).map Bod.name) = decide ((team, num) ∈ (bs.take k).map Bod.name)) := rfl
      have HBF : Hid (bodsOk [] bs = false) := by show _ = _; rw [HST.out, bad_1 HOK.out]; rfl
      clear e1
      go_wp2_with (go_at_call 69; refine (bvalid_c ⟨team, num, ⟨ax, ay, sx, sy, spin⟩, out⟩ _).mono ?_; rintro e w1 ⟨rfl, hb1⟩; rw [HOK.out]; obtain ⟨hc1, hc2, hf1, hf2, hz⟩ := two_new hb1; have d0 := hc2 0; have d1 := hc2 1; have d2 := hc2 2; have d3 := hc2 3; have d4 := hc2 4; have d5 := hc2 5; have d6 := hc2 6; have d7 := hc2 7; have hbw : Below wr.heap.size wr w1 := (((Below.refl _ _).alloc (Nat.le_refl _) _).alloc (by simp) _).trans (hb1.mono (by simp <;> omega)); have hm1 := hmap.below hbw hmap.lt; have hlk := names_lookup hm1 team num; rw [HMEM.out] at hlk; clear hc1 hc2 hf1 hf2)
      go_ret
      exact ⟨by rw [HS.out, HBF.out]; rfl, hbel.trans (hbw.mono hbel.size)⟩
    have HOK := Hid.mk' e1
    clear e1
    cases e2 : decide ((team, num) ∈ (bs.take k).map Bod.name)
    case true =>
      have HMEM := Hid.mk' e2
      have HBF : Hid (bodsOk [] bs = false) := by show _ = _; rw [HST.out, bad_2 HMEM.out]; rfl
      clear e2
      go_wp2_with (go_at_call 69; refine (bvalid_c ⟨team, num, ⟨ax, ay, sx, sy, spin⟩, out⟩ _).mono ?_; rintro e w1 ⟨rfl, hb1⟩; rw [HOK.out]; obtain ⟨hc1, hc2, hf1, hf2, hz⟩ := two_new hb1; have d0 := hc2 0; have d1 := hc2 1; have d2 := hc2 2; have d3 := hc2 3; have d4 := hc2 4; have d5 := hc2 5; have d6 := hc2 6; have d7 := hc2 7; have hbw : Below wr.heap.size wr w1 := (((Below.refl _ _).alloc (Nat.le_refl _) _).alloc (by simp) _).trans (hb1.mono (by simp <;> omega)); have hm1 := hmap.below hbw hmap.lt; have hlk := names_lookup hm1 team num; rw [HMEM.out] at hlk; clear hc1 hc2 hf1 hf2)
      go_ret
      exact ⟨by rw [HS.out, HBF.out]; rfl, hbel.trans (hbw.mono hbel.size)⟩
    have HMEM := Hid.mk' e2
    clear e2
    cases out
    case false =>
      have HBG : Hid (bodsOk [] bs = bodsOk (bs.take (k + 1)) (bs.drop (k + 1))) := by show _ = _; rw [HST.out, good_1 HOK.out HMEM.out rfl]; rfl
      have HNM : Hid ((team, num) ∉ (bs.take k).map Bod.name) := of_decide_eq_false HMEM.out
      have HKS : Hid ((bs.take (k + 1)).map Bod.name = (bs.take k).map Bod.name ++ [(team, num)]) := by
        show _ = _
        rw [HTK.out, List.map_append]; rfl
      go_wp2_with (first
        | (go_at_call 69; refine (bvalid_c ⟨team, num, ⟨ax, ay, sx, sy, spin⟩, false⟩ _).mono ?_; rintro e w1 ⟨rfl, hb1⟩; rw [HOK.out]; obtain ⟨hc1, hc2, hf1, hf2, hz⟩ := two_new hb1; have d0 := hc2 0; have d1 := hc2 1; have d2 := hc2 2; have d3 := hc2 3; have d4 := hc2 4; have d5 := hc2 5; have d6 := hc2 6; have d7 := hc2 7; have hbw : Below wr.heap.size wr w1 := (((Below.refl _ _).alloc (Nat.le_refl _) _).alloc (by simp) _).trans (hb1.mono (by simp <;> omega)); have hm1 := hmap.below hbw hmap.lt; have hlk := names_lookup hm1 team num; rw [HMEM.out] at hlk; clear hc1 hc2 hf1 hf2)
        | (at_mapUpdate; refine wpList_names rfl _ rfl _ _ _ rfl w.heap.size ((bs.take k).map Bod.name) team num rfl rfl rfl hm1 HNM.out ?_; intro w3 hm3 hg3))
      go_roundw
      case rel => exact ⟨k + 1, by omega, by go_num, by rw [HKS.out]; exact hm3, (hbel.trans (hbw.mono hbel.size)).grown hg3 (by have := hbw.size; have := hbel.size; omega) (fun q hq => by cases hq; exact Nat.le_refl _), HBG.out⟩
      case measure => simp [intOf]; omega
    cases e3 : Bod.rests ⟨team, num, ⟨ax, ay, sx, sy, spin⟩, true⟩
    case false =>
      have HR := Hid.mk' e3
      have HBF : Hid (bodsOk [] bs = false) := by show _ = _; rw [HST.out, bad_3 rfl HR.out]; rfl
      clear e3
      go_wp2_with (first
        | (go_at_call 69; refine (bvalid_c ⟨team, num, ⟨ax, ay, sx, sy, spin⟩, true⟩ _).mono ?_; rintro e w1 ⟨rfl, hb1⟩; rw [HOK.out]; obtain ⟨hc1, hc2, hf1, hf2, hz⟩ := two_new hb1; have d0 := hc2 0; have d1 := hc2 1; have d2 := hc2 2; have d3 := hc2 3; have d4 := hc2 4; have d5 := hc2 5; have d6 := hc2 6; have d7 := hc2 7; have hbw : Below wr.heap.size wr w1 := (((Below.refl _ _).alloc (Nat.le_refl _) _).alloc (by simp) _).trans (hb1.mono (by simp <;> omega)); have hm1 := hmap.below hbw hmap.lt; have hlk := names_lookup hm1 team num; rw [HMEM.out] at hlk; clear hc1 hc2 hf1 hf2)
        | (go_at_call 70; refine (brests_c ⟨team, num, ⟨ax, ay, sx, sy, spin⟩, true⟩ _).mono ?_; rintro e w2 ⟨rfl, hb2⟩; rw [HR.out]; have f0 := (hb2.cell (p := ⟨wr.heap.size + 1, 0, none⟩) hz).trans d0; have f1 := (hb2.cell (p := ⟨wr.heap.size + 1, 1, none⟩) hz).trans d1; have f6 := (hb2.cell (p := ⟨wr.heap.size + 1, 6, none⟩) hz).trans d6; have hm2 := hm1.below hb2 hm1.lt; clear d0 d1 d2 d3 d4 d5 d6 d7 hlk))
      go_ret
      exact ⟨by rw [HS.out, HBF.out]; rfl, (hbel.trans (hbw.mono hbel.size)).trans (hb2.mono (by have := hbw.size; have := hbel.size; omega))⟩
    have HR := Hid.mk' e3
    clear e3
    by_cases hs : spin = 0
    case neg =>
      have hsb : (spin != 0) = true := by simpa using hs
      have HSB := Hid.mk' hsb
      have HBF : Hid (bodsOk [] bs = false) := by show _ = _; rw [HST.out, bad_4 rfl HSB.out]; rfl
      clear hs
      go_wp2_with (first
        | (go_at_call 69; refine (bvalid_c ⟨team, num, ⟨ax, ay, sx, sy, spin⟩, true⟩ _).mono ?_; rintro e w1 ⟨rfl, hb1⟩; rw [HOK.out]; obtain ⟨hc1, hc2, hf1, hf2, hz⟩ := two_new hb1; have d0 := hc2 0; have d1 := hc2 1; have d2 := hc2 2; have d3 := hc2 3; have d4 := hc2 4; have d5 := hc2 5; have d6 := hc2 6; have d7 := hc2 7; have hbw : Below wr.heap.size wr w1 := (((Below.refl _ _).alloc (Nat.le_refl _) _).alloc (by simp) _).trans (hb1.mono (by simp <;> omega)); have hm1 := hmap.below hbw hmap.lt; have hlk := names_lookup hm1 team num; rw [HMEM.out] at hlk; clear hc1 hc2 hf1 hf2)
        | (go_at_call 70; refine (brests_c ⟨team, num, ⟨ax, ay, sx, sy, spin⟩, true⟩ _).mono ?_; rintro e w2 ⟨rfl, hb2⟩; rw [HR.out]; have f0 := (hb2.cell (p := ⟨wr.heap.size + 1, 0, none⟩) hz).trans d0; have f1 := (hb2.cell (p := ⟨wr.heap.size + 1, 1, none⟩) hz).trans d1; have f6 := (hb2.cell (p := ⟨wr.heap.size + 1, 6, none⟩) hz).trans d6; have hm2 := hm1.below hb2 hm1.lt; clear d0 d1 d2 d3 d4 d5 d6 d7 hlk))
      go_ret
      exact ⟨by rw [HS.out, HBF.out]; rfl, (hbel.trans (hbw.mono hbel.size)).trans (hb2.mono (by have := hbw.size; have := hbel.size; omega))⟩
    subst hs
    have HBG : Hid (bodsOk [] bs = bodsOk (bs.take (k + 1)) (bs.drop (k + 1))) := by show _ = _; rw [HST.out, good_2 HOK.out HMEM.out HR.out rfl]; rfl
    have HNM : Hid ((team, num) ∉ (bs.take k).map Bod.name) := of_decide_eq_false HMEM.out
    have HKS : Hid ((bs.take (k + 1)).map Bod.name = (bs.take k).map Bod.name ++ [(team, num)]) := by
      show _ = _
      rw [HTK.out, List.map_append]; rfl
    go_wp2_with (first
      | (go_at_call 69; refine (bvalid_c ⟨team, num, ⟨ax, ay, sx, sy, 0⟩, true⟩ _).mono ?_; rintro e w1 ⟨rfl, hb1⟩; rw [HOK.out]; obtain ⟨hc1, hc2, hf1, hf2, hz⟩ := two_new hb1; have d0 := hc2 0; have d1 := hc2 1; have d2 := hc2 2; have d3 := hc2 3; have d4 := hc2 4; have d5 := hc2 5; have d6 := hc2 6; have d7 := hc2 7; have hbw : Below wr.heap.size wr w1 := (((Below.refl _ _).alloc (Nat.le_refl _) _).alloc (by simp) _).trans (hb1.mono (by simp <;> omega)); have hm1 := hmap.below hbw hmap.lt; have hlk := names_lookup hm1 team num; rw [HMEM.out] at hlk; clear hc1 hc2 hf1 hf2)
      | (go_at_call 70; refine (brests_c ⟨team, num, ⟨ax, ay, sx, sy, 0⟩, true⟩ _).mono ?_; rintro e w2 ⟨rfl, hb2⟩; rw [HR.out]; have f0 := (hb2.cell (p := ⟨wr.heap.size + 1, 0, none⟩) hz).trans d0; have f1 := (hb2.cell (p := ⟨wr.heap.size + 1, 1, none⟩) hz).trans d1; have f6 := (hb2.cell (p := ⟨wr.heap.size + 1, 6, none⟩) hz).trans d6; have hm2 := hm1.below hb2 hm1.lt; clear d0 d1 d2 d3 d4 d5 d6 d7 hlk)
      | (at_mapUpdate; refine wpList_names rfl _ rfl _ _ _ rfl w.heap.size ((bs.take k).map Bod.name) team num rfl rfl rfl hm2 HNM.out ?_; intro w3 hm3 hg3))
    go_roundw
    case rel => exact ⟨k + 1, by omega, by go_num, by rw [HKS.out]; exact hm3, ((hbel.trans (hbw.mono hbel.size)).trans (hb2.mono (by have := hbw.size; have := hbel.size; omega))).grown hg3 (by have := hb2.size; have := hbw.size; have := hbel.size; omega) (fun q hq => by cases hq; exact Nat.le_refl _), HBG.out⟩
    case measure => simp [intOf]; omega
end Go.Proofs.Ytleceelemogbcaa
