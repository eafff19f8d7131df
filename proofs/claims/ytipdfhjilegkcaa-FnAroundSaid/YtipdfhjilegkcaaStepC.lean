/-
Contracts: the fewest edges of a cheapest way, the preferred way; by the program.
-/
import Derived.Test.YtipdfhjilegkcaaStepP
import Derived.Test.YtipdfhjilegkcaaGraphH
set_option linter.all false
namespace Go.Proofs.Ytipdfhjilegkcaa
open Go Go.Abs Go.Proofs

def InvS1 (H : Heap) (n t : Int) (es : List TEdge) (v u : V) (m : Nat) (ys : List V) (Hc : Heap) : Prop :=
  ∃ k : Nat, (k : Int) ≤ n ∧ ys = [.box [.int .i64 n, v], .int .i64 (k : Nat)] ∧ m = n.toNat - k ∧ Held H 1 ((roundsS n es t k).map ri) u Hc
def InvS2 (H : Heap) (n t : Int) (es : List TEdge) (v u : V) (k : Nat) (m : Nat) (ys : List V) (Hc : Heap) : Prop :=
  ∃ j : Nat, j ≤ es.length ∧ ys = [.box [.int .i64 n, v], .int .i64 (j : Nat)] ∧ m = es.length - j ∧ Held H 1 ((foldS n es t j (roundsS n es t k)).map ri) u Hc
set_option maxHeartbeats 2000000 in
theorem C_i_Graph_steps {n t : Int} {v d : V} {es : List TEdge} {H : Heap} {K : V → Heap → Prop} (hv : Rd H 3 v (es.map enEdge)) (hg : graphOk n es) (ht : 0 ≤ t ∧ t < n) (hd : Rd2 H 1 d (allD n es))
    (h : ∀ u H', Held H 1 ((tab (fw n es t) n.toNat).map ri) u H' → K u H') : ACalls P n_i_Graph_steps [vG n v, .int .i64 t, d] H K := by
  have hc := hv.cell
  have hn := hg.1
  have hl := hg.2.1
  apply W_i_Graph_steps
  unfold F_i_Graph_steps
  simp [hc, bsl_one]
  intro o ho
  have hs0 : Abs.sub H (upd H o ⟨1, [[.int .i64 1000000]]⟩) := sub_fresh ho
  refine C_slices_Repeat (r := [.int .i64 1000000]) (Rd.own (rows := [[.int .i64 1000000]]) (by simp) (upd_eq _ _ _)) (by simp) hn fun u H1 hu => ?_
  refine hu.pt (Abs.sub_refl _) ht.1 (by simp; omega) fun p hp => ?_
  refine hp.st (row' := ri 0) (by simp [stz_eq, putCells, show t.toNat < n.toNat by omega]) fun H2 H3 hu2 hs2 => ?_
  have e1 : (List.replicate n.toNat [V.int .i64 1000000]).set t.toNat (ri 0) = (roundsS n es t 0).map ri := by
    have : List.replicate n.toNat [V.int .i64 1000000] = (List.replicate n.toNat (1000000 : Int)).map ri := by simp
    rw [this, map_set_ri]; rfl
  rw [e1] at hu2
  refine ⟨InvS1 (upd H o ⟨1, [[.int .i64 1000000]]⟩) n t es v u, ⟨n.toNat, H3, hs2, 0, by omega, rfl, by omega, hu2⟩, ?_⟩
  rintro m ys Hc ⟨k, hk, rfl, rfl, hu3⟩
  simp [hv.len]
  refine ⟨fun hlt => ?_, fun hge => ?_⟩
  · refine ⟨InvS2 (upd H o ⟨1, [[.int .i64 1000000]]⟩) n t es v u k, ⟨es.length, Shr.of ⟨0, by omega, rfl, by omega, by simpa [foldS] using hu3⟩⟩, ?_⟩
    rintro m ys Hd ⟨j, hj, rfl, rfl, hu4⟩
    have hsd := sub_trans hs0 hu4.sub
    simp
    rw [i64_in (n := (j : Int) + 1) (by omega) (by omega), i64_in (n := (k : Int) + 1) (by omega) (by omega)]
    refine ⟨fun hlt2 => ?_, fun hge2 => ?_⟩
    · have he : es[j] ∈ es := List.getElem_mem hlt2
      obtain ⟨k1, k2, k3, k4⟩ := edge_ok hg he
      have hok := (SOk.rounds (es := es) hg ht k).part hg j
      have next := foldS_succ (n := n) (es := es) (t := t) (out := roundsS n es t k) hlt2
      have stay : ¬ tight n es t es[j] → ∃ n21, n21 < es.length - j ∧ Shr (InvS2 (upd H o ⟨1, [[.int .i64 1000000]]⟩) n t es v u k n21 [.box [.int .i64 n, v], .int .i64 ((j : Int) + 1)]) Hd := fun hnt =>
        ⟨es.length - (j + 1), by omega, Shr.of ⟨j + 1, by omega, by simp, rfl, by rw [next, relS, if_neg hnt]; exact hu4⟩⟩
      have f1 := far_in hg es[j].2.1 ht.1 ht.2
      refine (hv.mono hsd).idx (by omega) (by simpa using hlt2) fun p hp => ?_
      simp only [hp.ld]
      simp [hlt2, stz_eq, putCells]
      refine ⟨Hd, Abs.sub_refl _, ?_⟩
      refine far_ld (hd.mono hsd) hg k1 ht ?_
      simp
      refine ⟨fun q1 => ?_, fun q1 => stay fun hh => by have := hh.1; omega⟩
      refine far_ld (hd.mono hsd) hg k2 ht ?_
      simp
      refine far_ld (hd.mono hsd) hg k1 ht ?_
      simp
      rw [i64_in (n := es[j].2.2 + far n es es[j].2.1 t) (by omega) (by omega)]
      refine ⟨fun q2 => ?_, fun q2 => stay fun hh => q2 hh.2⟩
      have r4 := hu4.rd ri_len
      generalize foldS n es t j (roundsS n es t k) = out at *
      have d1 := hok.2 es[j].1 k1
      have d2 : fw n es t es[j].2.1 ≤ out.getD es[j].2.1.toNat 0 ∧ out.getD es[j].2.1.toNat 0 ≤ 1000000 := hok.2 es[j].2.1 k2
      have dl := hok.1
      have z1 := fw_in hg t es[j].1
      have z2 := fw_in hg t es[j].2.1
      refine r4.idx k1.1 (by simp; omega) fun p hp => ?_
      rw [hp.ld, getD_ri (by omega)]
      simp
      refine r4.idx k2.1 (by simp; omega) fun p hp => ?_
      rw [hp.ld, getD_ri (by omega)]
      simp
      simp only [← List.getD_eq_getElem?_getD] at *
      rw [i64_in (n := out.getD es[j].2.1.toNat 0 + 1) (by omega) (by omega), aMins_two]
      simp
      refine hu4.pt (Abs.sub_refl _) k1.1 (by simp; omega) fun p hp => ?_
      refine hp.st (row' := ri (min (nd out es[j].1) (nd out es[j].2.1 + 1))) (by rw [getD_ri (by omega)]; simp [stz_eq, putCells]) fun H5 H6 hu5 hs5 => ?_
      rw [map_set_ri] at hu5
      refine ⟨es.length - (j + 1), by omega, H6, hs5, j + 1, by omega, by simp, rfl, ?_⟩
      rw [next, relS, if_pos ⟨q1, q2⟩]
      exact hu5
    · have e : j = es.length := by omega
      subst e
      exact ⟨n.toNat - (k + 1), by omega, Shr.of ⟨k + 1, by omega, by simp, rfl, hu4⟩⟩
  · have e : k = n.toNat := by omega
    subst e
    rw [steps_fw hg ht] at hu3
    exact Ret.held hu3 hs0 h

def goodE (n : Int) (es : List TEdge) (t x : Int) (e : TEdge) : Prop := e.1 = x ∧ e.2.2 + far n es e.2.1 t = far n es x t ∧ fw n es t e.2.1 = fw n es t x - 1
theorem nxt_first {n : Int} {es : List TEdge} {t x : Int} (hx : x ≠ t) (hf : far n es x t < 1000000) {i : Nat} (hi : i < es.length) (hgd : goodE n es t x es[i]) (hno : ∀ j (hj : j < i), ¬ goodE n es t x (es[j]'(by omega))) : nxt n es t x = es[i].2.1 := by
  unfold nxt hops
  rw [if_neg (fun hh => by rcases hh with hh | hh; exact hx hh; omega)]
  rw [List.find?_filterMap]
  have key : ∀ e : TEdge, ((hopAt n es x t e).any fun y => decide (fw n es t y = fw n es t x - 1)) = true ↔ goodE n es t x e := fun e => by
    unfold hopAt goodE
    split
    · rename_i hc; simp [hc.1, hc.2]
    · rename_i hc
      simp
      intro a b
      exact absurd ⟨a, b⟩ hc
  have : es.find? (fun a => (hopAt n es x t a).any fun y => decide (fw n es t y = fw n es t x - 1)) = some es[i] := by
    rw [List.find?_eq_some_iff_getElem]
    refine ⟨(key _).2 hgd, i, hi, rfl, fun j hj => ?_⟩
    have := hno j hj
    rw [← key] at this
    simpa using this
  rw [this]
  unfold hopAt
  simp only [Option.bind_some]
  rw [if_pos ⟨hgd.1, hgd.2.1⟩]
  rfl

def InvSW1 (Hs : Heap) (n t a : Int) (es : List TEdge) (v : V) (m : Nat) (ys : List V) (Hc : Heap) : Prop :=
  ∃ (k : Nat) (w : V), (k : Int) ≤ fw n es t a ∧ ys = [.box [.int .i64 n, v], w, .int .i64 (iter n es t a k)] ∧ m = (fw n es t a).toNat - k ∧ Held Hs 1 ((wayTo n es t a k).map ri) w Hc
def InvSW2 (n t x : Int) (es : List TEdge) (v : V) (H : Heap) (m : Nat) (ys : List V) (Hc : Heap) : Prop :=
  ∃ i : Nat, i ≤ es.length ∧ ys = [.box [.int .i64 n, v], .int .i64 x, .int .i64 (i : Nat)] ∧ m = es.length - i ∧ Hc = H ∧ ∀ j (hj : j < es.length), j < i → ¬ goodE n es t x es[j]
set_option maxHeartbeats 2000000 in
theorem C_i_Graph_cheapest {n a t : Int} {v : V} {es : List TEdge} {H : Heap} {K : V → Heap → Prop} (hv : Rd H 3 v (es.map enEdge)) (hg : graphOk n es) (ha : 0 ≤ a ∧ a < n) (ht : 0 ≤ t ∧ t < n)
    (h : ∀ u H', Held H 1 ((cheap n es t a).map ri) u H' → K (.tup [u, .bool (decide (far n es a t < 1000000))]) H') : ACalls P n_i_Graph_cheapest [vG n v, .int .i64 a, .int .i64 t] H K := by
  have hc := hv.cell
  have hn := hg.1
  have hl := hg.2.1
  have hfa := far_in hg a ht.1 ht.2
  apply W_i_Graph_cheapest
  unfold F_i_Graph_cheapest
  simp [hc]
  refine C_i_Graph_all hv hg fun d H1 s1 hd => ?_
  refine far_ld hd hg ha ht ?_
  simp
  refine ⟨fun q => ?_, fun q => ?_⟩
  · have := h .nils H (by rw [cheap, if_neg (by omega)]; exact Held.nil)
    rw [decide_eq_false (by omega)] at this
    exact Ret.shr this rfl s1
  have hlt : far n es a t < 1000000 := by omega
  have hfw := (fw_lt hg ht ha).2 hlt
  have hfi := fw_in hg t a
  refine C_i_Graph_steps (hv.mono s1) hg ht hd fun st H2 hst => ?_
  have s2 := sub_trans s1 hst.sub
  have rst := hst.rd ri_len
  have tl := tab_len (fw n es t) n.toNat
  simp [bsl_one, hv.len]
  intro o3 ho3
  have h3 : Held H2 1 ((wayTo n es t a 0).map ri) (.slice o3 0 1 (some 1)) (upd H2 o3 ⟨1, [[.int .i64 a]]⟩) := Held.full (rows := (wayTo n es t a 0).map ri) ho3 rfl
  refine ⟨InvSW1 H2 n t a es v, ⟨(fw n es t a).toNat, Shr.of ⟨0, _, by omega, by simp [iter], by omega, h3⟩⟩, ?_⟩
  rintro m ys Hc ⟨k, w, hk, rfl, rfl, hw⟩
  obtain ⟨i1, i2⟩ := iter_fw hg ht ha hfw k hk
  have i3 := iter_end hg ht ha hfw k hk
  simp [hv.len]
  refine ⟨fun hne => ?_, fun heq => ?_⟩
  · have hkl : (k : Int) < fw n es t a := by
      by_cases e : (k : Int) = fw n es t a
      · exact absurd (i3.2 e) hne
      · omega
    generalize hx : iter n es t a k = x at *
    have hfx : far n es x t < 1000000 := (fw_lt hg ht i2).1 (by omega)
    have hsp := nxt_spec hg ht hne (by omega : fw n es t x < 1000000)
    refine ⟨InvSW2 n t x es v Hc, ⟨es.length, Shr.of ⟨0, by omega, rfl, by omega, rfl, fun j hj hj0 => by omega⟩⟩, ?_⟩
    rintro m ys Hd ⟨i, hi, rfl, rfl, rfl, hno⟩
    have hsd := hw.sub
    simp
    rw [i64_in (n := (i : Int) + 1) (by omega) (by omega)]
    refine ⟨fun hlt2 => ?_, fun hge2 => ?_⟩
    · have he : es[i] ∈ es := List.getElem_mem hlt2
      obtain ⟨k1, k2, k3, k4⟩ := edge_ok hg he
      have f1 := far_in hg es[i].2.1 ht.1 ht.2
      have stay : ¬ goodE n es t x es[i] → ∃ n26, n26 < es.length - i ∧ Shr (InvSW2 n t x es v Hd n26 [.box [.int .i64 n, v], .int .i64 x, .int .i64 ((i : Int) + 1)]) Hd := fun hng =>
        ⟨es.length - (i + 1), by omega, Shr.of ⟨i + 1, by omega, by simp, rfl, rfl, fun j hj hji => by
          by_cases e : j = i
          · subst e; exact hng
          · exact hno j hj (by omega)⟩⟩
      refine (hv.mono (sub_trans s2 hsd)).idx (by omega) (by simpa using hlt2) fun p hp => ?_
      simp only [hp.ld]
      simp [hlt2, stz_eq, putCells]
      refine ⟨Hd, Abs.sub_refl _, ?_⟩
      have hdd := hd.mono (sub_trans hst.sub hsd)
      refine ⟨fun q1 => ?_, fun q1 => stay fun hh => q1 hh.1⟩
      refine far_ld hdd hg k2 ht ?_
      simp
      refine far_ld hdd hg i2 ht ?_
      simp
      rw [i64_in (n := es[i].2.2 + far n es es[i].2.1 t) (by omega) (by omega)]
      refine ⟨fun q2 => ?_, fun q2 => stay fun hh => q2 hh.2.1⟩
      refine (rst.mono hsd).idx k2.1 (by simp [tl]; omega) fun p hp => ?_
      rw [hp.ld, getD_ri (by omega), tab_get (by omega)]
      simp
      refine (rst.mono hsd).idx i2.1 (by simp [tl]; omega) fun p hp => ?_
      rw [hp.ld, getD_ri (by omega), tab_get (by omega)]
      simp
      rw [i64_in (n := fw n es t x - 1) (by omega) (by omega)]
      refine ⟨fun q3 => ?_, fun q3 => stay fun hh => q3 hh.2.2⟩
      have hnx := nxt_first hne hfx hlt2 ⟨q1, q2, q3⟩ fun j hj => hno j (by omega) hj
      simp [bsl_one]
      intro o5 ho5
      have hwl := wayTo_len n es t a k
      refine hw.append (sub_fresh ho5) (by simp) (by simp; omega) fun v' H' H'' ho' hs' => ?_
      have e4 : iter n es t a (k + 1) = es[i].2.1 := by rw [iter, hx, hnx]
      refine ⟨(fw n es t a).toNat - (k + 1), by omega, H'', hs', k + 1, v', by omega, by rw [e4], rfl, ?_⟩
      rw [wayTo, e4, List.map_append]
      exact ho'
    · exfalso
      obtain ⟨e, he, e1, e2, e3, _⟩ := hop_edge hsp.1
      obtain ⟨j, hj, rfl⟩ := List.getElem_of_mem he
      exact hno j hj (by omega) ⟨e1, by rw [e2]; exact e3, by rw [e2]; exact hsp.2⟩
  · have e := i3.1 heq
    have hK := h w
    have ek : (fw n es t a).toNat = k := by omega
    rw [cheap, if_pos hlt, ek, decide_eq_true hlt] at hK
    obtain ⟨Hz, z1, z2⟩ := hw.shrink s2
    exact Ret.shr (hK _ z1) rfl z2

end Go.Proofs.Ytipdfhjilegkcaa
