/-
Contracts: all distances, hops.
-/
import Derived.Test.YtaippfedjjjpeaaGraphM
set_option linter.all false
namespace Go.Proofs.Ytaippfedjjjpeaa
open Go Go.Abs Go.Proofs

def allD (n : Int) (es : List TEdge) : List (List (List V)) := (List.range n.toNat).map fun i => (dist n es (i : Nat)).map ri
theorem allD_len (n : Int) (es : List TEdge) : (allD n es).length = n.toNat := by simp [allD]
theorem allD_get {n : Int} {es : List TEdge} {a : Int} (ha : 0 ≤ a ∧ a < n) : (allD n es).getD a.toNat [] = (dist n es a).map ri := by
  have h : a.toNat < n.toNat := by omega
  have e : ((a.toNat : Nat) : Int) = a := by omega
  simp [allD, h, e]
/-- A distance read off the table of all. -/
theorem far_ld {n a b : Int} {es : List TEdge} {u : V} {H : Heap} {K : V → Prop} (hu : Rd2 H 1 u (allD n es)) (hg : graphOk n es) (ha : 0 ≤ a ∧ a < n) (hb : 0 ≤ b ∧ b < n) (h : K (.int .i64 (far n es a b))) :
    bnd (aIndex H 1 u (.int .i64 a)) fun t => bnd (aLd false 1 H t) fun w => bnd (aIndex H 1 w (.int .i64 b)) fun t2 => bnd (aLd false 1 H t2) K := by
  refine hu.idx ha.1 (by rw [allD_len]; omega) fun p w hp hw => ?_
  rw [hp]
  simp
  rw [allD_get ha] at hw
  exact dist_ld hw hg hb h

def InvA (H : Heap) (n : Int) (es : List TEdge) (m : Nat) (ys : List V) (Hc : Heap) : Prop :=
  ∃ (i : Nat) (u : V) (ws : List V) (Hb : Heap), (i : Int) ≤ n ∧ ys = [u, .int .i64 (i : Nat)] ∧ m = n.toNat - i ∧ ws.length = i ∧ Abs.sub H Hb ∧ (∀ j, j < i → Rd Hb 1 (ws.getD j .any) ((dist n es (j : Nat)).map ri)) ∧ Held Hb 1 (ws.map fun w => [w]) u Hc

theorem C_i_Graph_all {n : Int} {v : V} {es : List TEdge} {H : Heap} {K : V → Heap → Prop} (hv : Rd H 3 v (es.map enEdge)) (hg : graphOk n es) (h : ∀ u H', Abs.sub H H' → Rd2 H' 1 u (allD n es) → K u H') : ACalls P n_i_Graph_all [vG n v] H K := by
  have hc := hv.cell
  have hn := hg.1
  apply W_i_Graph_all
  unfold F_i_Graph_all
  simp [hc, bsl_nil]
  intro o ho
  refine ⟨InvA H n es, ⟨n.toNat, Shr.of ⟨0, _, [], H, by omega, rfl, by omega, rfl, Abs.sub_refl _, fun j hj => absurd hj (by omega), Held.new ho⟩⟩, ?_⟩
  rintro m ys Hc ⟨i, u, ws, Hb, hi, rfl, rfl, hlen, hsb, hws, hu⟩
  simp
  have hsc := sub_trans hsb hu.sub
  refine ⟨fun hlt => ?_, fun hge => ?_⟩
  · refine C_i_Graph_distances (hv.mono hsc) hg (by omega) fun w H1 hw => ?_
    have hwc := hw.cell
    obtain ⟨Hb', q1, q2⟩ := hu.swap hw
    rw [bsl_one 1 [.nils] w rfl (by omega) (by simp [hwc]) (by simp [hwc]) (by omega)]
    simp [hwc]
    intro o2 ho2
    refine q2.append (sub_fresh ho2) (by simp) (by simp; omega) fun v' H' H'' ho' hs' => ?_
    rw [i64_in (by omega) (by omega)]
    refine ⟨n.toNat - (i + 1), by omega, H'', hs', i + 1, v', ws ++ [w], Hb', by omega, by simp, rfl, by simp [hlen], sub_trans hsb q1.sub, fun j hj => ?_, by simpa using ho'⟩
    by_cases e : j = i
    · subst e
      rw [show (ws ++ [w]).getD j .any = w by simp [← hlen]]
      exact q1.rd ri_len
    · rw [show (ws ++ [w]).getD j .any = ws.getD j .any by rw [List.getD_eq_getElem?_getD, List.getElem?_append_left (by omega), ← List.getD_eq_getElem?_getD]]
      exact (hws j (by omega)).mono q1.sub
  · have e : i = n.toNat := by omega
    subst e
    refine Ret.of (h u Hc hsc ⟨ws, by rw [allD_len]; exact hlen, hu.rd (by simp), fun j hj => ?_⟩)
    rw [allD_len] at hj
    have := (hws j hj).mono hu.sub
    rw [show (allD n es).getD j [] = (dist n es (j : Nat)).map ri by simp [allD, hj]]
    exact this

/-! #### hops -/
def hopsP (n : Int) (es : List TEdge) (a b : Int) (i : Nat) : List Int := (es.take i).filterMap (hopAt n es a b)
theorem hopsP_len (n : Int) (es : List TEdge) (a b : Int) (i : Nat) : (hopsP n es a b i).length ≤ i := by
  unfold hopsP
  have := List.length_filterMap_le (hopAt n es a b) (es.take i)
  have := List.length_take_le i es
  omega
theorem hopsP_succ {n : Int} {es : List TEdge} {a b : Int} {i : Nat} (h : i < es.length) : hopsP n es a b (i + 1) = hopsP n es a b i ++ (hopAt n es a b es[i]).toList := by
  unfold hopsP
  rw [List.take_succ_eq_append_getElem h, List.filterMap_append]
  congr 1

def InvH (H : Heap) (n : Int) (es : List TEdge) (a b : Int) (m : Nat) (ys : List V) (Hc : Heap) : Prop :=
  ∃ (i : Nat) (u : V), i ≤ es.length ∧ ys = [u, .int .i64 (i : Nat)] ∧ m = es.length - i ∧ Held H 1 ((hopsP n es a b i).map ri) u Hc

set_option maxHeartbeats 1000000 in
theorem C_i_Graph_hopsTo {n a b : Int} {v d : V} {es : List TEdge} {H : Heap} {K : V → Heap → Prop} (hv : Rd H 3 v (es.map enEdge)) (hg : graphOk n es) (ha : 0 ≤ a ∧ a < n) (hb : 0 ≤ b ∧ b < n) (hd : Rd2 H 1 d (allD n es))
    (h : ∀ u H', Held H 1 ((hops n es a b).map ri) u H' → K u H') : ACalls P n_i_Graph_hopsTo [vG n v, .int .i64 a, .int .i64 b, d] H K := by
  have hc := hv.cell
  have hn := hg.1
  have hl := hg.2.1
  apply W_i_Graph_hopsTo
  unfold F_i_Graph_hopsTo
  simp [hc, bsl_nil, hv.len]
  intro o ho
  have h0 := Held.new (sz := 1) ho
  refine ⟨fun q => Ret.of (h _ _ (by rw [hops, if_pos (.inl q)]; exact h0)), fun q => ?_⟩
  refine far_ld (hd.mono h0.sub) hg ha hb ?_
  simp
  refine ⟨fun q' => Ret.of (h _ _ (by rw [hops, if_pos (.inr q')]; exact h0)), fun q' => ?_⟩
  have e : hops n es a b = hopsP n es a b es.length := by rw [hops, if_neg (by intro hh; rcases hh with hh | hh; exact q hh; exact q' hh), hopsP, List.take_length]
  rw [e] at h
  refine ⟨InvH H n es a b, ⟨es.length, Shr.of ⟨0, _, by omega, rfl, by omega, by simpa [hopsP] using h0⟩⟩, ?_⟩
  rintro m ys Hc ⟨i, u, hi, rfl, rfl, hu⟩
  simp
  refine ⟨fun hlt => ?_, fun hge => ?_⟩
  · have he := ed_get hlt
    have hok := hg.2.2 i hlt
    rw [okAt, he] at hok
    obtain ⟨k1, k2, k3, k4, _⟩ := hok
    have dc := hd.mono hu.sub
    have f1 := far_in hg es[i].2.1 hb.1 hb.2
    refine (hv.mono hu.sub).idx (by omega) (by simpa using hlt) fun p hp => ?_
    simp only [hp.ld]
    simp [hlt, stz_eq, putCells]
    rw [i64_in (n := (i : Int) + 1) (by omega) (by omega)]
    have no : ¬ (es[i].1 = a ∧ es[i].2.2 + far n es es[i].2.1 b = far n es a b) → ∃ n14, n14 < es.length - i ∧ Shr (InvH H n es a b n14 [u, .int .i64 ((i : Int) + 1)]) Hc := fun hne =>
      ⟨es.length - (i + 1), by omega, Shr.of ⟨i + 1, u, by omega, by simp, rfl, by rw [hopsP_succ hlt, hopAt, if_neg hne]; simpa using hu⟩⟩
    refine ⟨_, Abs.sub_refl _, ?_⟩
    refine ⟨fun q1 => ?_, fun q1 => no fun hh => q1 hh.1⟩
    refine far_ld dc hg k2 hb ?_
    simp
    refine far_ld dc hg ha hb ?_
    simp
    rw [i64_in (n := es[i].2.2 + far n es es[i].2.1 b) (by omega) (by omega)]
    refine ⟨fun q2 => ?_, fun q2 => no fun hh => q2 hh.2⟩
    simp [bsl_one]
    intro o3 ho3
    have hlen := hopsP_len n es a b i
    refine hu.append (sub_fresh ho3) (by simp) (by simp; omega) fun v' H' H'' ho' hs' => ?_
    refine ⟨es.length - (i + 1), by omega, H'', hs', i + 1, v', by omega, by simp, rfl, ?_⟩
    rw [hopsP_succ hlt, hopAt, if_pos ⟨q1, q2⟩]
    simpa using ho'
  · have e : i = es.length := by omega
    subst e
    exact Ret.of (h _ _ hu)

end Go.Proofs.Ytaippfedjjjpeaa
