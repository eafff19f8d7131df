/-
Contracts: all distances, hops.
-/
import Derived.Test.YtaippfedjjjpeaaGreatGraphM
set_option linter.all false
namespace Go.Proofs.YtaippfedjjjpeaaGreat
open Go Go.Abs Go.Proofs

def allD (n : Int) (es : List TEdge) : List (List (List V)) := (List.range n.toNat).map fun i => (dist n es (i : Nat)).map ri
theorem allD_len (n : Int) (es : List TEdge) : (allD n es).length = n.toNat := by simp [allD]
theorem allD_get {n : Int} {es : List TEdge} {a : Int} (ha : 0 ≤ a ∧ a < n) : (allD n es).getD a.toNat [] = (dist n es a).map ri := by
  have h : a.toNat < n.toNat := by omega
  have e : ((a.toNat : Nat) : Int) = a := by omega
  simp [allD, h, e]
/-- A distance read off the table of all. -/
theorem far_ld {n a b : Int} {es : List TEdge} {u : V} {H : Heap} {K : V → Prop} (hu : Rd2 H 1 u (allD n es)) (hg : graphOk n es) (ha : 0 ≤ a ∧ a < n) (hb : 0 ≤ b ∧ b < n) (h : K (.int .i64 (far n es a b))) :
    bnd (aIndex H 1 u (.int .i64 a)) fun t => bnd (aLd false 1 H t) fun w => bnd (aIndex H 1 w (.int .i64 b)) fun t2 => bnd (aLd false 1 H t2) K := by
  refine hu.idx ha.1 (by rw [allD_len]; omega) fun p w hp hw => ?_
  rw [hp]
  simp
  rw [allD_get ha] at hw
  exact dist_ld hw hg hb h

def InvA (H : Heap) (n : Int) (es : List TEdge) (m : Nat) (ys : List V) (Hc : Heap) : Prop :=
  ∃ (i : Nat) (u : V) (ws : List V) (Hb : Heap), (i : Int) ≤ n ∧ ys = [u, .int .i64 (i : Nat)] ∧ m = n.toNat - i ∧ ws.length = i ∧ Abs.sub H Hb ∧ (∀ j, j < i → Rd Hb 1 (ws.getD j .any) ((dist n es (j : Nat)).map ri)) ∧ Held Hb 1 (ws.map fun w => [w]) u Hc

theorem C_i_Graph_all {n : Int} {v : V} {es : List TEdge} {H : Heap} {K : V → Heap → Prop} (hv : Rd H 3 v (es.map enEdge)) (hg : graphOk n es) (h : ∀ u H', Abs.sub H H' → Rd2 H' 1 u (allD n es) → K u H') : ACalls P n_i_Graph_all [vG n v] H K := by
  have hc := hv.cell
  have hn := hg.1
  apply W_i_Graph_all
  unfold F_i_Graph_all
  simp [hc, bsl_nil]
  intro o ho
  refine ⟨InvA H n es, ⟨n.toNat, Shr.of ⟨0, _, [], H, by omega, rfl, by omega, rfl, Abs.sub_refl _, fun j hj => absurd hj (by omega), Held.new ho⟩⟩, ?_⟩
  rintro m ys Hc ⟨i, u, ws, Hb, hi, rfl, rfl, hlen, hsb, hws, hu⟩
  simp
  have hsc := sub_trans hsb hu.sub
  refine ⟨fun hlt => ?_, fun hge => ?_⟩
  · refine C_i_Graph_distances (hv.mono hsc) hg (by omega) fun w H1 hw => ?_
    have hwc := hw.cell
    obtain ⟨Hb', q1, q2⟩ := hu.swap hw
    rw [bsl_one 1 [.nils] w rfl (by omega) (by simp [hwc]) (by simp [hwc]) (by omega)]
    simp [hwc]
    intro o2 ho2
    refine q2.append (sub_fresh ho2) (by simp) (by simp; omega) fun v' H' H'' ho' hs' => ?_
    rw [i64_in (by omega) (by omega)]
    refine ⟨n.toNat - (i + 1), by omega, H'', hs', i + 1, v', ws ++ [w], Hb', by omega, by simp, rfl, by simp [hlen], sub_trans hsb q1.sub, fun j hj => ?_, by simpa using ho'⟩
    by_cases e : j = i
    · subst e
      rw [show (ws ++ [w]).getD j .any = w by simp [← hlen]]
      exact q1.rd ri_len
    · rw [show (ws ++ [w]).getD j .any = ws.getD j .any by rw [List.getD_eq_getElem?_getD, List.getElem?_append_left (by omega), ← List.getD_eq_getElem?_getD]]
      exact (hws j (by omega)).mono q1.sub
  · have e : i = n.toNat := by omega
    subst e
    refine Ret.of (h u Hc hsc ⟨ws, by rw [allD_len]; exact hlen, hu.rd (by simp), fun j hj => ?_⟩)
    rw [allD_len] at hj
    have := (hws j hj).mono hu.sub
    rw [show (allD n es).getD j [] = (dist n es (j : Nat)).map ri by simp [allD, hj]]
    exact this

/-! #### hops -/
def hopsP (n : Int) (es : List TEdge) (a b : Int) (i : Nat) : List Int := (es.take i).filterMap (hopAt n es a b)
theorem hopsP_len (n : Int) (es : List TEdge) (a b : Int) (i : Nat) : (hopsP n es a b i).length ≤ i := by
  unfold hopsP
  have := List.length_filterMap_le (hopAt n es a b) (es.take i)
  have := List.length_take_le i es
  omega
theorem hopsP_succ {n : Int} {es : List TEdge} {a b : Int} {i : Nat} (h : i < es.length) : hopsP n es a b (i + 1) = hopsP n es a b i ++ (hopAt n es a b es[i]).toList := by
  unfold hopsP
  rw [List.take_succ_eq_append_getElem h, List.filterMap_append]
  congr 1

def InvH (H : Heap) (n : Int) (es : List TEdge) (a b : Int) (m : Nat) (ys : List V) (Hc : Heap) : Prop :=
  ∃ (i : Nat) (u : V), i ≤ es.length ∧ ys = [u, .int .i64 (i : Nat)] ∧ m = es.length - i ∧ Held H 1 ((hopsP n es a b i).map ri) u Hc

set_option maxHeartbeats 1000000 in
theorem C_i_Graph_hopsTo {n a b : Int} {v d : V} {es : List TEdge} {H : Heap} {K : V → Heap → Prop} (hv : Rd H 3 v (es.map enEdge)) (hg : graphOk n es) (ha : 0 ≤ a ∧ a < n) (hb : 0 ≤ b ∧ b < n) (hd : Rd2 H 1 d (allD n es))
    (h : ∀ u H', Held H 1 ((hops n es a b).map ri) u H' → K u H') : ACalls P n_i_Graph_hopsTo [vG n v, .int .i64 a, .int .i64 b, d] H K := by
  have hc := hv.cell
  have hn := hg.1
  have hl := hg.2.1
  apply W_i_Graph_hopsTo
  unfold F_i_Graph_hopsTo
  simp [hc, bsl_nil, hv.len]
  intro o ho
  have h0 := Held.new (sz := 1) ho
  refine ⟨fun q => Ret.of (h _ _ (by rw [hops, if_pos (.inl q)]; exact h0)), fun q => ?_⟩
  refine far_ld (hd.mono h0.sub) hg ha hb ?_
  simp
  refine ⟨fun q' => Ret.of (h _ _ (by rw [hops, if_pos (.inr q')]; exact h0)), fun q' => ?_⟩
  have e : hops n es a b = hopsP n es a b es.length := by rw [hops, if_neg (by intro hh; rcases hh with hh | hh; exact q hh; exact q' hh), hopsP, List.take_length]
  rw [e] at h
  refine ⟨InvH H n es a b, ⟨es.length, Shr.of ⟨0, _, by omega, rfl, by omega, by simpa [hopsP] using h0⟩⟩, ?_⟩
  rintro m ys Hc ⟨i, u, hi, rfl, rfl, hu⟩
  simp
  refine ⟨fun hlt => ?_, fun hge => ?_⟩
  · have he := ed_get hlt
    have hok := hg.2.2 i hlt
    rw [okAt, he] at hok
    obtain ⟨k1, k2, k3, k4, _⟩ := hok
    have dc := hd.mono hu.sub
    have f1 := far_in hg es[i].2.1 hb.1 hb.2
    refine (hv.mono hu.sub).idx (by omega) (by simpa using hlt) fun p hp => ?_
    simp only [hp.ld]
    simp [hlt, stz_eq, putCells]
    rw [i64_in (n := (i : Int) + 1) (by omega) (by omega)]
    have no : ¬ (es[i].1 = a ∧ es[i].2.2 + far n es es[i].2.1 b = far n es a b) → ∃ n14, n14 < es.length - i ∧ Shr (InvH H n es a b n14 [u, .int .i64 ((i : Int) + 1)]) Hc := fun hne =>
      ⟨es.length - (i + 1), by omega, Shr.of ⟨i + 1, u, by omega, by simp, rfl, by rw [hopsP_succ hlt, hopAt, if_neg hne]; simpa using hu⟩⟩
    refine ⟨_, Abs.sub_refl _, ?_⟩
    refine ⟨fun q1 => ?_, fun q1 => no fun hh => q1 hh.1⟩
    refine far_ld dc hg k2 hb ?_
    simp
    refine far_ld dc hg ha hb ?_
    simp
    rw [i64_in (n := es[i].2.2 + far n es es[i].2.1 b) (by omega) (by omega)]
    refine ⟨fun q2 => ?_, fun q2 => no fun hh => q2 hh.2⟩
    simp [bsl_one]
    intro o3 ho3
    have hlen := hopsP_len n es a b i
    refine hu.append (sub_fresh ho3) (by simp) (by simp; omega) fun v' H' H'' ho' hs' => ?_
    refine ⟨es.length - (i + 1), by omega, H'', hs', i + 1, v', by omega, by simp, rfl, ?_⟩
    rw [hopsP_succ hlt, hopAt, if_pos ⟨q1, q2⟩]
    simpa using ho'
  · have e : i = es.length := by omega
    subst e
    exact Ret.of (h _ _ hu)

end Go.Proofs.YtaippfedjjjpeaaGreat
/-
Contracts: the reference's hops; HopOf.
-/
namespace Go.Proofs.YtaippfedjjjpeaaGreat
open Go Go.Abs Go.Proofs

/-- A distance as the reference looks it up. -/
theorem C_s_dist {n a b : Int} {v : V} {es : List TEdge} {H : Heap} {K : V → Heap → Prop} (hv : Rd H 3 v (es.map enEdge)) (hg : graphOk n es) (ha : 0 ≤ a ∧ a < n) (hb : 0 ≤ b ∧ b < n) (h : ∀ H', Abs.sub H H' → K (.int .i64 (far n es a b)) H') :
    ACalls P n_s_Distances [vG n v, .int .i64 a] H fun u H' => bnd (aIndex H' 1 u (.int .i64 b)) fun t => bnd (aLd false 1 H' t) fun x => K x H' := by
  refine C_s_Distances hv hg ha fun u H' hu => ?_
  exact dist_ld (hu.rd ri_len) hg hb (h _ hu.sub)

def hopsX (n : Int) (es : List TEdge) (a b : Int) (i : Nat) : List Int := ((List.range i).map (fun i : Nat => (i : Int))).filter (hopX n es a b)
theorem hopsX_len (n : Int) (es : List TEdge) (a b : Int) (i : Nat) : (hopsX n es a b i).length ≤ i := by
  unfold hopsX
  have := List.length_filter_le (hopX n es a b) ((List.range i).map (fun i : Nat => (i : Int)))
  simpa using this
theorem hopsX_succ {n : Int} {es : List TEdge} {a b : Int} {i : Nat} : hopsX n es a b (i + 1) = hopsX n es a b i ++ (if hopX n es a b (i : Int) = true then [(i : Int)] else []) := by
  unfold hopsX
  rw [List.range_succ, List.map_append, List.filter_append]
  congr 1
  simp only [List.map_cons, List.map_nil, List.filter_cons, List.filter_nil]

def InvX (H : Heap) (n : Int) (es : List TEdge) (a b : Int) (m : Nat) (ys : List V) (Hc : Heap) : Prop :=
  ∃ (i : Nat) (u : V) (Hb : Heap), (i : Int) ≤ n ∧ ys = [u, .int .i64 (i : Nat)] ∧ m = n.toNat - i ∧ Abs.sub H Hb ∧ Held Hb 1 ((hopsX n es a b i).map ri) u Hc

set_option maxHeartbeats 1000000 in
theorem C_s_HopsTo {n a b : Int} {v : V} {es : List TEdge} {H : Heap} {K : V → Heap → Prop} (hv : Rd H 3 v (es.map enEdge)) (hg : graphOk n es) (ha : 0 ≤ a ∧ a < n) (hb : 0 ≤ b ∧ b < n)
    (h : ∀ u H', Held H 1 ((hops n es a b).map ri) u H' → K u H') : ACalls P n_s_HopsTo [vG n v, .int .i64 a, .int .i64 b] H K := by
  have hc := hv.cell
  have hn := hg.1
  have hf := far_in hg a hb.1 hb.2
  apply W_s_HopsTo
  unfold F_s_HopsTo
  simp [hc, bsl_nil]
  intro o ho
  have h0 := Held.new (sz := 1) ho
  have hv0 := hv.mono h0.sub
  refine C_s_GraphOk hv0 ?_
  simp [hg]
  refine C_s_l03Node hv0 hn ?_
  simp [ha]
  refine C_s_l03Node hv0 hn ?_
  simp [hb]
  refine ⟨fun q => Ret.shr (h .nils H (by rw [hops, if_pos (.inl q)]; exact Held.nil)) rfl h0.sub, fun q => ?_⟩
  refine C_s_Distances hv0 hg ha fun w H1 hw => ?_
  refine dist_ld (hw.rd ri_len) hg hb ?_
  simp
  refine ⟨fun q' => Ret.shr (h .nils H (by rw [hops, if_pos (.inr q')]; exact Held.nil)) rfl (sub_trans h0.sub hw.sub), fun q' => ?_⟩
  rw [hops_eq hg] at h
  have e : hopsR n es a b = hopsX n es a b n.toNat := by rw [hopsR, if_neg (by intro hh; rcases hh with hh | hh; exact q hh; exact q' hh), hopsX]
  rw [e] at h
  obtain ⟨Hb, g1, g2⟩ := h0.swap hw
  refine ⟨InvX H n es a b, ⟨n.toNat, Shr.of ⟨0, _, Hb, by omega, rfl, by omega, g1.sub, by simpa [hopsX] using g2⟩⟩, ?_⟩
  rintro m ys Hc ⟨i, u, Hb, hi, rfl, rfl, hsb, hu⟩
  simp
  refine ⟨fun hlt => ?_, fun hge => ?_⟩
  · have hvc := hv.mono (sub_trans hsb hu.sub)
    have hlen := hopsX_len n es a b i
    have f1 := far_in hg (i : Int) hb.1 hb.2
    refine C_s_l03Cost hvc hg ?_
    simp
    rw [i64_in (n := (i : Int) + 1) (by omega) (by omega)]
    have no : ∀ Hd, Abs.sub Hc Hd → ¬ hopX n es a b (i : Int) = true → ∃ n14, n14 < n.toNat - i ∧ Shr (InvX H n es a b n14 [u, .int .i64 ((i : Int) + 1)]) Hd := fun Hd hs hne =>
      ⟨n.toNat - (i + 1), by omega, Hc, hs, i + 1, u, Hb, by omega, by simp, rfl, hsb, by rw [hopsX_succ, if_neg hne]; simpa using hu⟩
    refine ⟨fun q1 => ⟨fun q2 => ?_, fun q2 => no _ (Abs.sub_refl _) fun hh => ?_⟩, fun q1 => no _ (Abs.sub_refl _) fun hh => ?_⟩
    · refine C_s_Distances hvc hg (by omega) fun w H1 hw => ?_
      refine dist_ld (hw.rd ri_len) hg hb ?_
      simp
      rw [i64_in (n := cost n es a (i : Int) + far n es (i : Int) b) (by rcases cost_cases hg a (i : Int) with hh | hh <;> omega) (by rcases cost_cases hg a (i : Int) with hh | hh <;> omega)]
      refine ⟨fun q3 => ?_, fun q3 => no _ hw.sub fun hh => ?_⟩
      · simp [bsl_one]
        intro o3 ho3
        obtain ⟨Hb', r1, r2⟩ := hu.swap hw
        refine r2.append (sub_fresh ho3) (by simp) (by simp; omega) fun v' H' H'' ho' hs' => ?_
        refine ⟨n.toNat - (i + 1), by omega, H'', hs', i + 1, v', Hb', by omega, by simp, rfl, sub_trans hsb r1.sub, ?_⟩
        rw [hopsX_succ, if_pos (by simp [hopX]; exact ⟨q1, q2, q3⟩)]
        simpa using ho'
      · simp [hopX] at hh
        exact q3 hh.2.2
    · simp [hopX] at hh
      omega
    · simp [hopX] at hh
      exact hh.1 q1
  · have e : i = n.toNat := by omega
    subst e
    exact Ret.held hu hsb h

def hopOf (n : Int) (es : List TEdge) (a b : Int) : Int := if a = b then a else (hops n es a b).headD (-1)
theorem hopOf_same (n : Int) (es : List TEdge) (a : Int) : hopOf n es a a = a := by rw [hopOf, if_pos rfl]
theorem hopOf_none {n : Int} {es : List TEdge} {a b : Int} (h : a ≠ b) (h0 : (hops n es a b).length = 0) : hopOf n es a b = -1 := by
  rw [hopOf, if_neg h, List.eq_nil_of_length_eq_zero h0]; rfl
theorem hopOf_some {n : Int} {es : List TEdge} {a b : Int} (h : a ≠ b) (h0 : 0 < (hops n es a b).length) : (hops n es a b)[0] = hopOf n es a b := by
  rw [hopOf, if_neg h]
  match hops n es a b, h0 with
  | x :: xs, _ => rfl

end Go.Proofs.YtaippfedjjjpeaaGreat
/-
Contracts: graphs whose edges go both ways, neighbors, loop-free ones.
-/
namespace Go.Proofs.YtaippfedjjjpeaaGreat
open Go Go.Abs Go.Proofs

def bothOk (n : Int) (es : List TEdge) : Prop := ∀ i, i < es.length → cost n es (ed es i).2.1 (ed es i).1 ≠ 1000000
def nodesOk (n : Int) (xs : List Int) : Prop := ∀ i, i < xs.length → 0 ≤ xs.getD i 0 ∧ xs.getD i 0 < n
instance (n : Int) (es : List TEdge) : Decidable (bothOk n es) := by unfold bothOk; infer_instance
instance (n : Int) (xs : List Int) : Decidable (nodesOk n xs) := by unfold nodesOk; infer_instance
def around (n : Int) (es : List TEdge) (xs : List Int) : Prop := graphOk n es ∧ bothOk n es ∧ nodesOk n xs
instance (n : Int) (es : List TEdge) (xs : List Int) : Decidable (around n es xs) := by unfold around; infer_instance
def near (n : Int) (es : List TEdge) (s t : Int) : Prop := s ≠ t ∧ cost n es s t < 1000000
instance (n : Int) (es : List TEdge) (s t : Int) : Decidable (near n es s t) := by unfold near; infer_instance
def lfree (n : Int) (es : List TEdge) (s t d : Int) : Prop := near n es s t ∧ s ≠ d ∧ far n es t d < 1000000 ∧ far n es t s < 1000000 ∧ far n es s d < 1000000 ∧ far n es t d < far n es t s + far n es s d
instance (n : Int) (es : List TEdge) (s t d : Int) : Decidable (lfree n es s t d) := by unfold lfree; infer_instance
theorem nodesOk_three {n a b c : Int} (h : nodesOk n [a, b, c]) : (0 ≤ a ∧ a < n) ∧ (0 ≤ b ∧ b < n) ∧ (0 ≤ c ∧ c < n) := ⟨by simpa using h 0 (by simp), by simpa using h 1 (by simp), by simpa using h 2 (by simp)⟩
theorem nodesOk_four {n a b c d : Int} (h : nodesOk n [a, b, c, d]) : (0 ≤ a ∧ a < n) ∧ (0 ≤ b ∧ b < n) ∧ (0 ≤ c ∧ c < n) ∧ (0 ≤ d ∧ d < n) := ⟨by simpa using h 0 (by simp), by simpa using h 1 (by simp), by simpa using h 2 (by simp), by simpa using h 3 (by simp)⟩

def InvG1 (n : Int) (es : List TEdge) (H : Heap) (m : Nat) (ys : List V) (Hc : Heap) : Prop :=
  ∃ i, i ≤ es.length ∧ ys = [.int .i64 (i : Nat)] ∧ m = es.length - i ∧ Hc = H ∧ ∀ j, j < i → cost n es (ed es j).2.1 (ed es j).1 ≠ 1000000
def InvG2 (n : Int) (xs : List Int) (H : Heap) (m : Nat) (ys : List V) (Hc : Heap) : Prop :=
  ∃ i, i ≤ xs.length ∧ ys = [.int .i64 (i : Nat)] ∧ m = xs.length - i ∧ Hc = H ∧ ∀ j, j < i → 0 ≤ xs.getD j 0 ∧ xs.getD j 0 < n

/-! #### the program's -/
def InvI (len : Nat) (q : Nat → Bool) (H : Heap) (m : Nat) (ys : List V) (Hc : Heap) : Prop :=
  ∃ i, i ≤ len ∧ ys = [.int .i64 (i : Nat)] ∧ m = len - i ∧ Hc = H ∧ ∀ j, j < i → q j = false
end Go.Proofs.YtaippfedjjjpeaaGreat
/-
Contracts: loop-free neighbors, alternates.
-/
namespace Go.Proofs.YtaippfedjjjpeaaGreat
open Go Go.Abs Go.Proofs

theorem bsl3 (a b c : Int) : bsl 1 3 [.int .i64 0] [(0, .int .i64 a), (1, .int .i64 b), (2, .int .i64 c)] = some (([a, b, c] : List Int).map ri) := rfl
theorem bsl4 (a b c d : Int) : bsl 1 4 [.int .i64 0] [(0, .int .i64 a), (1, .int .i64 b), (2, .int .i64 c), (3, .int .i64 d)] = some (([a, b, c, d] : List Int).map ri) := rfl

def fil (q : Int → Bool) (i : Nat) : List Int := ((List.range i).map (fun i : Nat => (i : Int))).filter q
theorem fil_len (q : Int → Bool) (i : Nat) : (fil q i).length ≤ i := by
  unfold fil
  have := List.length_filter_le q ((List.range i).map (fun i : Nat => (i : Int)))
  simpa using this
theorem fil_succ {q : Int → Bool} {i : Nat} : fil q (i + 1) = fil q i ++ (if q (i : Int) = true then [(i : Int)] else []) := by
  unfold fil
  rw [List.range_succ, List.map_append, List.filter_append]
  congr 1
  simp only [List.map_cons, List.map_nil, List.filter_cons, List.filter_nil]
theorem fil_yes {q : Int → Bool} {i : Nat} (h : q (i : Int) = true) : fil q (i + 1) = fil q i ++ [(i : Int)] := by rw [fil_succ, if_pos h]
theorem fil_no {q : Int → Bool} {i : Nat} (h : q (i : Int) = false) : fil q (i + 1) = fil q i := by rw [fil_succ, if_neg (by rw [h]; simp), List.append_nil]
theorem mem_fil {q : Int → Bool} {i : Nat} {x : Int} (h : x ∈ fil q i) : (0 ≤ x ∧ x < i) ∧ q x = true := by
  unfold fil at h
  simp only [List.mem_filter, List.mem_map, List.mem_range] at h
  obtain ⟨⟨j, hj, rfl⟩, h2⟩ := h
  exact ⟨⟨by omega, by omega⟩, h2⟩
theorem fil_mem {q : Int → Bool} {n x : Int} (h0 : 0 ≤ x ∧ x < n) (h : q x = true) : x ∈ fil q n.toNat := by
  unfold fil
  simp only [List.mem_filter, List.mem_map, List.mem_range]
  exact ⟨⟨x.toNat, by omega, by omega⟩, h⟩
def InvFil (H : Heap) (n : Int) (q : Int → Bool) (m : Nat) (ys : List V) (Hc : Heap) : Prop :=
  ∃ (i : Nat) (u : V) (Hb : Heap), (i : Int) ≤ n ∧ ys = [u, .int .i64 (i : Nat)] ∧ m = n.toNat - i ∧ Abs.sub H Hb ∧ Held Hb 1 ((fil q i).map ri) u Hc
theorem InvFil.start {H : Heap} {n : Int} {q : Int → Bool} {o : Nat} (hn : 0 ≤ n) (ho : H o = none) : InvFil H n q n.toNat [.slice o 0 0 (some 0), .int .i64 0] (upd H o ⟨1, []⟩) := ⟨0, _, H, by omega, rfl, by omega, Abs.sub_refl _, by simpa [fil] using Held.new ho⟩

theorem C_slices_Contains {x : Int} {w : V} {xs : List Int} {H : Heap} {K : V → Heap → Prop} (hw : Rd H 1 w (xs.map ri)) (hl : xs.length ≤ 1000000) (h : K (.bool (decide (x ∈ xs))) H) : ACalls P n_slices_Contains_int_int [w, .int .i64 x] H K := by
  apply W_slices_Contains_int_int
  unfold F_slices_Contains_int_int
  apply W_slices_Index_int_int
  unfold F_slices_Index_int_int
  simp [hw.len]
  refine ⟨fun m ys Hc => ∃ i, i ≤ xs.length ∧ ys = [.int .i64 (i : Nat)] ∧ m = xs.length - i ∧ Hc = H ∧ x ∉ xs.take i, ⟨xs.length, Shr.of ⟨0, by omega, by simp, by omega, rfl, by simp⟩⟩, ?_⟩
  rintro m ys Hc ⟨i, hi, rfl, rfl, rfl, hx⟩
  simp
  refine ⟨fun hlt => ?_, fun hge => ?_⟩
  · refine hw.idx (by omega) (by simpa using hlt) fun p hp => ?_
    simp only [hp.ld]
    simp [hlt]
    refine ⟨fun q => Ret.of ?_, fun q => ?_⟩
    · simp
      exact Ret.yes h (q ▸ List.getElem_mem hlt)
    rw [i64_in (n := (i : Int) + 1) (by omega) (by omega)]
    refine ⟨xs.length - (i + 1), by omega, Shr.of ⟨i + 1, by omega, by simp, rfl, rfl, ?_⟩⟩
    rw [List.take_succ_eq_append_getElem hlt, List.mem_append]
    rintro (hh | hh)
    · exact hx hh
    · simp at hh; exact q hh
  · have : i = xs.length := by omega
    subst this
    rw [List.take_length] at hx
    refine Ret.of ?_
    simp
    exact Ret.no h hx

/-! #### alternates -/
def altQ (n : Int) (es : List TEdge) (s f d x : Int) : Bool := decide (x ≠ f ∧ lfree n es s x d)
def alts (n : Int) (es : List TEdge) (s f d : Int) : List Int := if near n es s f then fil (altQ n es s f d) n.toNat else []
def altsR (n : Int) (es : List TEdge) (s f d : Int) : List Int := if around n es [s, f, d] then alts n es s f d else []
theorem altsR_len {n : Int} {es : List TEdge} (s f d : Int) : (altsR n es s f d).length ≤ 1000 := by
  unfold altsR
  split
  · rename_i ha
    unfold alts
    have := ha.1.1
    split
    · have := fil_len (altQ n es s f d) n.toNat; omega
    · simp
  · simp
theorem nodesOk_mk {n a b c : Int} (h1 : 0 ≤ a ∧ a < n) (h2 : 0 ≤ b ∧ b < n) (h3 : 0 ≤ c ∧ c < n) : nodesOk n [a, b, c] := fun i hi => by
  simp at hi
  have : i = 0 ∨ i = 1 ∨ i = 2 := by omega
  rcases this with rfl | rfl | rfl <;> simpa

end Go.Proofs.YtaippfedjjjpeaaGreat
