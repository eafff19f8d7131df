/-
Contracts: the reference's hops; HopOf.
-/
import Derived.Test.YtaippfedjjjpeaaGraphH
set_option linter.all false
namespace Go.Proofs.Ytaippfedjjjpeaa
open Go Go.Abs Go.Proofs

/-- A distance as the reference looks it up. -/
theorem C_s_dist {n a b : Int} {v : V} {es : List TEdge} {H : Heap} {K : V → Heap → Prop} (hv : Rd H 3 v (es.map enEdge)) (hg : graphOk n es) (ha : 0 ≤ a ∧ a < n) (hb : 0 ≤ b ∧ b < n) (h : ∀ H', Abs.sub H H' → K (.int .i64 (far n es a b)) H') :
    ACalls P n_s_Distances [vG n v, .int .i64 a] H fun u H' => bnd (aIndex H' 1 u (.int .i64 b)) fun t => bnd (aLd false 1 H' t) fun x => K x H' := by
  refine C_s_Distances hv hg ha fun u H' hu => ?_
  exact dist_ld (hu.rd ri_len) hg hb (h _ hu.sub)

def hopsX (n : Int) (es : List TEdge) (a b : Int) (i : Nat) : List Int := ((List.range i).map (fun i : Nat => (i : Int))).filter (hopX n es a b)
theorem hopsX_len (n : Int) (es : List TEdge) (a b : Int) (i : Nat) : (hopsX n es a b i).length ≤ i := by
  unfold hopsX
  have := List.length_filter_le (hopX n es a b) ((List.range i).map (fun i : Nat => (i : Int)))
  simpa using this
theorem hopsX_succ {n : Int} {es : List TEdge} {a b : Int} {i : Nat} : hopsX n es a b (i + 1) = hopsX n es a b i ++ (if hopX n es a b (i : Int) = true then [(i : Int)] else []) := by
  unfold hopsX
  rw [List.range_succ, List.map_append, List.filter_append]
  congr 1
  simp only [List.map_cons, List.map_nil, List.filter_cons, List.filter_nil]

def InvX (H : Heap) (n : Int) (es : List TEdge) (a b : Int) (m : Nat) (ys : List V) (Hc : Heap) : Prop :=
  ∃ (i : Nat) (u : V) (Hb : Heap), (i : Int) ≤ n ∧ ys = [u, .int .i64 (i : Nat)] ∧ m = n.toNat - i ∧ Abs.sub H Hb ∧ Held Hb 1 ((hopsX n es a b i).map ri) u Hc

set_option maxHeartbeats 1000000 in
theorem C_s_HopsTo {n a b : Int} {v : V} {es : List TEdge} {H : Heap} {K : V → Heap → Prop} (hv : Rd H 3 v (es.map enEdge)) (hg : graphOk n es) (ha : 0 ≤ a ∧ a < n) (hb : 0 ≤ b ∧ b < n)
    (h : ∀ u H', Held H 1 ((hops n es a b).map ri) u H' → K u H') : ACalls P n_s_HopsTo [vG n v, .int .i64 a, .int .i64 b] H K := by
  have hc := hv.cell
  have hn := hg.1
  have hf := far_in hg a hb.1 hb.2
  apply W_s_HopsTo
  unfold F_s_HopsTo
  simp [hc, bsl_nil]
  intro o ho
  have h0 := Held.new (sz := 1) ho
  have hv0 := hv.mono h0.sub
  refine C_s_GraphOk hv0 ?_
  simp [hg]
  refine C_s_l03Node hv0 hn ?_
  simp [ha]
  refine C_s_l03Node hv0 hn ?_
  simp [hb]
  refine ⟨fun q => Ret.shr (h .nils H (by rw [hops, if_pos (.inl q)]; exact Held.nil)) rfl h0.sub, fun q => ?_⟩
  refine C_s_Distances hv0 hg ha fun w H1 hw => ?_
  refine dist_ld (hw.rd ri_len) hg hb ?_
  simp
  refine ⟨fun q' => Ret.shr (h .nils H (by rw [hops, if_pos (.inr q')]; exact Held.nil)) rfl (sub_trans h0.sub hw.sub), fun q' => ?_⟩
  rw [hops_eq hg] at h
  have e : hopsR n es a b = hopsX n es a b n.toNat := by rw [hopsR, if_neg (by intro hh; rcases hh with hh | hh; exact q hh; exact q' hh), hopsX]
  rw [e] at h
  obtain ⟨Hb, g1, g2⟩ := h0.swap hw
  refine ⟨InvX H n es a b, ⟨n.toNat, Shr.of ⟨0, _, Hb, by omega, rfl, by omega, g1.sub, by simpa [hopsX] using g2⟩⟩, ?_⟩
  rintro m ys Hc ⟨i, u, Hb, hi, rfl, rfl, hsb, hu⟩
  simp
  refine ⟨fun hlt => ?_, fun hge => ?_⟩
  · have hvc := hv.mono (sub_trans hsb hu.sub)
    have hlen := hopsX_len n es a b i
    have f1 := far_in hg (i : Int) hb.1 hb.2
    refine C_s_l03Cost hvc hg ?_
    simp
    rw [i64_in (n := (i : Int) + 1) (by omega) (by omega)]
    have no : ∀ Hd, Abs.sub Hc Hd → ¬ hopX n es a b (i : Int) = true → ∃ n14, n14 < n.toNat - i ∧ Shr (InvX H n es a b n14 [u, .int .i64 ((i : Int) + 1)]) Hd := fun Hd hs hne =>
      ⟨n.toNat - (i + 1), by omega, Hc, hs, i + 1, u, Hb, by omega, by simp, rfl, hsb, by rw [hopsX_succ, if_neg hne]; simpa using hu⟩
    refine ⟨fun q1 => ⟨fun q2 => ?_, fun q2 => no _ (Abs.sub_refl _) fun hh => ?_⟩, fun q1 => no _ (Abs.sub_refl _) fun hh => ?_⟩
    · refine C_s_Distances hvc hg (by omega) fun w H1 hw => ?_
      refine dist_ld (hw.rd ri_len) hg hb ?_
      simp
      rw [i64_in (n := cost n es a (i : Int) + far n es (i : Int) b) (by rcases cost_cases hg a (i : Int) with hh | hh <;> omega) (by rcases cost_cases hg a (i : Int) with hh | hh <;> omega)]
      refine ⟨fun q3 => ?_, fun q3 => no _ hw.sub fun hh => ?_⟩
      · simp [bsl_one]
        intro o3 ho3
        obtain ⟨Hb', r1, r2⟩ := hu.swap hw
        refine r2.append (sub_fresh ho3) (by simp) (by simp; omega) fun v' H' H'' ho' hs' => ?_
        refine ⟨n.toNat - (i + 1), by omega, H'', hs', i + 1, v', Hb', by omega, by simp, rfl, sub_trans hsb r1.sub, ?_⟩
        rw [hopsX_succ, if_pos (by simp [hopX]; exact ⟨q1, q2, q3⟩)]
        simpa using ho'
      · simp [hopX] at hh
        exact q3 hh.2.2
    · simp [hopX] at hh
      omega
    · simp [hopX] at hh
      exact hh.1 q1
  · have e : i = n.toNat := by omega
    subst e
    exact Ret.held hu hsb h

def hopOf (n : Int) (es : List TEdge) (a b : Int) : Int := if a = b then a else (hops n es a b).headD (-1)
theorem hopOf_same (n : Int) (es : List TEdge) (a : Int) : hopOf n es a a = a := by rw [hopOf, if_pos rfl]
theorem hopOf_none {n : Int} {es : List TEdge} {a b : Int} (h : a ≠ b) (h0 : (hops n es a b).length = 0) : hopOf n es a b = -1 := by
  rw [hopOf, if_neg h, List.eq_nil_of_length_eq_zero h0]; rfl
theorem hopOf_some {n : Int} {es : List TEdge} {a b : Int} (h : a ≠ b) (h0 : 0 < (hops n es a b).length) : (hops n es a b)[0] = hopOf n es a b := by
  rw [hopOf, if_neg h]
  match hops n es a b, h0 with
  | x :: xs, _ => rfl

end Go.Proofs.Ytaippfedjjjpeaa
