/-
Contracts: loop-free neighbors, alternates.
-/
import Derived.Test.YtipdfhjilegkcaaGraphN
set_option linter.all false
namespace Go.Proofs.Ytipdfhjilegkcaa
open Go Go.Abs Go.Proofs

theorem bsl3 (a b c : Int) : bsl 1 3 [.int .i64 0] [(0, .int .i64 a), (1, .int .i64 b), (2, .int .i64 c)] = some (([a, b, c] : List Int).map ri) := rfl
theorem bsl4 (a b c d : Int) : bsl 1 4 [.int .i64 0] [(0, .int .i64 a), (1, .int .i64 b), (2, .int .i64 c), (3, .int .i64 d)] = some (([a, b, c, d] : List Int).map ri) := rfl

def fil (q : Int → Bool) (i : Nat) : List Int := ((List.range i).map (fun i : Nat => (i : Int))).filter q
theorem fil_len (q : Int → Bool) (i : Nat) : (fil q i).length ≤ i := by
  unfold fil
  have := List.length_filter_le q ((List.range i).map (fun i : Nat => (i : Int)))
  simpa using this
theorem fil_succ {q : Int → Bool} {i : Nat} : fil q (i + 1) = fil q i ++ (if q (i : Int) = true then [(i : Int)] else []) := by
  unfold fil
  rw [List.range_succ, List.map_append, List.filter_append]
  congr 1
  simp only [List.map_cons, List.map_nil, List.filter_cons, List.filter_nil]
theorem fil_yes {q : Int → Bool} {i : Nat} (h : q (i : Int) = true) : fil q (i + 1) = fil q i ++ [(i : Int)] := by rw [fil_succ, if_pos h]
theorem fil_no {q : Int → Bool} {i : Nat} (h : q (i : Int) = false) : fil q (i + 1) = fil q i := by rw [fil_succ, if_neg (by rw [h]; simp), List.append_nil]
theorem mem_fil {q : Int → Bool} {i : Nat} {x : Int} (h : x ∈ fil q i) : (0 ≤ x ∧ x < i) ∧ q x = true := by
  unfold fil at h
  simp only [List.mem_filter, List.mem_map, List.mem_range] at h
  obtain ⟨⟨j, hj, rfl⟩, h2⟩ := h
  exact ⟨⟨by omega, by omega⟩, h2⟩
theorem fil_mem {q : Int → Bool} {n x : Int} (h0 : 0 ≤ x ∧ x < n) (h : q x = true) : x ∈ fil q n.toNat := by
  unfold fil
  simp only [List.mem_filter, List.mem_map, List.mem_range]
  exact ⟨⟨x.toNat, by omega, by omega⟩, h⟩
def InvFil (H : Heap) (n : Int) (q : Int → Bool) (m : Nat) (ys : List V) (Hc : Heap) : Prop :=
  ∃ (i : Nat) (u : V) (Hb : Heap), (i : Int) ≤ n ∧ ys = [u, .int .i64 (i : Nat)] ∧ m = n.toNat - i ∧ Abs.sub H Hb ∧ Held Hb 1 ((fil q i).map ri) u Hc
theorem InvFil.start {H : Heap} {n : Int} {q : Int → Bool} {o : Nat} (hn : 0 ≤ n) (ho : H o = none) : InvFil H n q n.toNat [.slice o 0 0 (some 0), .int .i64 0] (upd H o ⟨1, []⟩) := ⟨0, _, H, by omega, rfl, by omega, Abs.sub_refl _, by simpa [fil] using Held.new ho⟩

theorem C_s_l01Has {x : Int} {w : V} {xs : List Int} {H : Heap} {K : V → Heap → Prop} (hw : Rd H 1 w (xs.map ri)) (hl : xs.length ≤ 1000000) (h : K (.bool (decide (x ∈ xs))) H) : ACalls P n_s_l01Has [w, .int .i64 x] H K := by
  apply W_s_l01Has
  unfold F_s_l01Has
  refine ⟨fun m ys Hc => ∃ i, i ≤ xs.length ∧ ys = [.int .i64 (i : Nat)] ∧ m = xs.length - i ∧ Hc = H ∧ x ∉ xs.take i, xs.length, Shr.of ⟨0, by omega, by simp, by omega, rfl, by simp⟩, ?_⟩
  rintro m ys Hc ⟨i, hi, rfl, rfl, rfl, hx⟩
  simp [hw.len]
  refine ⟨fun hlt => ?_, fun hge => ?_⟩
  · refine hw.idx (by omega) (by simpa using hlt) fun p hp => ?_
    simp only [hp.ld]
    simp [hlt]
    refine ⟨fun q => Ret.yes h (q ▸ List.getElem_mem hlt), fun q => ?_⟩
    rw [i64_in (n := (i : Int) + 1) (by omega) (by omega)]
    refine ⟨xs.length - (i + 1), by omega, Shr.of ⟨i + 1, by omega, by simp, rfl, rfl, ?_⟩⟩
    rw [List.take_succ_eq_append_getElem hlt, List.mem_append]
    rintro (hh | hh)
    · exact hx hh
    · simp at hh; exact q hh.symm
  · have : i = xs.length := by omega
    subst this
    rw [List.take_length] at hx
    exact Ret.no h hx
theorem C_slices_Contains {x : Int} {w : V} {xs : List Int} {H : Heap} {K : V → Heap → Prop} (hw : Rd H 1 w (xs.map ri)) (hl : xs.length ≤ 1000000) (h : K (.bool (decide (x ∈ xs))) H) : ACalls P n_slices_Contains_int_int [w, .int .i64 x] H K := by
  apply W_slices_Contains_int_int
  unfold F_slices_Contains_int_int
  apply W_slices_Index_int_int
  unfold F_slices_Index_int_int
  simp [hw.len]
  refine ⟨fun m ys Hc => ∃ i, i ≤ xs.length ∧ ys = [.int .i64 (i : Nat)] ∧ m = xs.length - i ∧ Hc = H ∧ x ∉ xs.take i, ⟨xs.length, Shr.of ⟨0, by omega, by simp, by omega, rfl, by simp⟩⟩, ?_⟩
  rintro m ys Hc ⟨i, hi, rfl, rfl, rfl, hx⟩
  simp
  refine ⟨fun hlt => ?_, fun hge => ?_⟩
  · refine hw.idx (by omega) (by simpa using hlt) fun p hp => ?_
    simp only [hp.ld]
    simp [hlt]
    refine ⟨fun q => Ret.of ?_, fun q => ?_⟩
    · simp
      exact Ret.yes h (q ▸ List.getElem_mem hlt)
    rw [i64_in (n := (i : Int) + 1) (by omega) (by omega)]
    refine ⟨xs.length - (i + 1), by omega, Shr.of ⟨i + 1, by omega, by simp, rfl, rfl, ?_⟩⟩
    rw [List.take_succ_eq_append_getElem hlt, List.mem_append]
    rintro (hh | hh)
    · exact hx hh
    · simp at hh; exact q hh
  · have : i = xs.length := by omega
    subst this
    rw [List.take_length] at hx
    refine Ret.of ?_
    simp
    exact Ret.no h hx

theorem C_s_LoopFree {n s t d : Int} {v : V} {es : List TEdge} {H : Heap} {K : V → Heap → Prop} (hv : Rd H 3 v (es.map enEdge)) (h : K (.bool (decide (around n es [s, t, d] ∧ lfree n es s t d))) H) : ACalls P n_s_LoopFree [vG n v, .int .i64 s, .int .i64 t, .int .i64 d] H K := by
  have hc := hv.cell
  apply W_s_LoopFree
  unfold F_s_LoopFree
  simp [hc, bsl3]
  intro o ho
  have hw : Held H 1 (([s, t, d] : List Int).map ri) (.slice o 0 3 (some 3)) (upd H o ⟨1, ([s, t, d] : List Int).map ri⟩) := Held.full ho (by simp)
  have hs := hw.sub
  have hvb := hv.mono hs
  refine C_s_l10Good hvb (hw.rd ri_len) (by simp) ?_
  simp
  refine ⟨fun q => Ret.shr h (by rw [decide_eq_false (fun hh => q hh.1)]) hs, fun ha => ?_⟩
  have hg := ha.1
  obtain ⟨n1, n2, n3⟩ := nodesOk_three ha.2.2
  refine ⟨fun q => Ret.shr h (by rw [decide_eq_false (fun hh => hh.2.2.1 q)]) hs, fun q1 => ?_⟩
  refine C_s_l10Near hvb hg ?_
  simp
  refine ⟨fun q => Ret.shr h (by rw [decide_eq_false (fun hh => q hh.2.1)]) hs, fun q2 => ?_⟩
  refine C_s_l10Dist hvb hg n2 n3 ?_
  simp
  refine C_s_l10Dist hvb hg n2 n1 ?_
  simp
  refine C_s_l10Dist hvb hg n1 n3 ?_
  simp
  have f1 := far_in hg t n1.1 n1.2
  have f2 := far_in hg s n3.1 n3.2
  rw [i64_in (n := far n es t s + far n es s d) (by omega) (by omega)]
  refine ⟨fun q3 => ⟨fun q4 => ⟨fun q5 => Ret.shr h ?_ hs, fun q => Ret.shr h ?_ hs⟩, fun q => Ret.shr h ?_ hs⟩, fun q => Ret.shr h ?_ hs⟩
  · by_cases q6 : far n es t d < far n es t s + far n es s d
    · rw [decide_eq_true q6, decide_eq_true ⟨ha, q2, q1, q3, q4, q5, q6⟩]
    · rw [decide_eq_false q6, decide_eq_false (fun hh => q6 hh.2.2.2.2.2.2)]
  · rw [decide_eq_false (fun hh => by have := hh.2.2.2.2.2.1; omega)]
  · rw [decide_eq_false (fun hh => by have := hh.2.2.2.2.1; omega)]
  · rw [decide_eq_false (fun hh => by have := hh.2.2.2.1; omega)]

theorem C_i_Graph_loopFree {n s t d : Int} {v u : V} {es : List TEdge} {H : Heap} {K : V → Heap → Prop} (hv : Rd H 3 v (es.map enEdge)) (hg : graphOk n es) (n1 : 0 ≤ s ∧ s < n) (n2 : 0 ≤ t ∧ t < n) (n3 : 0 ≤ d ∧ d < n) (hu : Rd2 H 1 u (allD n es))
    (h : K (.bool (decide (lfree n es s t d))) H) : ACalls P n_i_Graph_loopFree [vG n v, .int .i64 s, .int .i64 t, .int .i64 d, u] H K := by
  have hc := hv.cell
  apply W_i_Graph_loopFree
  unfold F_i_Graph_loopFree
  simp [hc]
  refine C_i_Graph_isNear hv hg ?_
  simp
  refine ⟨fun q => Ret.no h fun hh => q hh.1, fun q2 => ?_⟩
  refine ⟨fun q => Ret.no h fun hh => hh.2.1 q, fun q1 => ?_⟩
  have f1 := far_in hg t n1.1 n1.2
  have f2 := far_in hg s n3.1 n3.2
  have f3 := far_in hg t n3.1 n3.2
  refine far_ld hu hg n2 n3 ?_
  simp
  refine ⟨fun q => Ret.no h fun hh => by have := hh.2.2.1; omega, fun q3 => ?_⟩
  refine far_ld hu hg n2 n1 ?_
  simp
  refine ⟨fun q => Ret.no h fun hh => by have := hh.2.2.2.1; omega, fun q4 => ?_⟩
  refine far_ld hu hg n1 n3 ?_
  simp
  refine ⟨fun q => Ret.no h fun hh => by have := hh.2.2.2.2.1; omega, fun q5 => ?_⟩
  refine ⟨_, Abs.sub_refl _, ?_⟩
  refine far_ld hu hg n2 n3 ?_
  refine far_ld hu hg n2 n1 ?_
  refine far_ld hu hg n1 n3 ?_
  simp
  rw [i64_in (n := far n es t s + far n es s d) (by omega) (by omega)]
  exact Ret.iff h ⟨fun hh => ⟨q2, q1, by omega, by omega, by omega, hh⟩, fun hh => hh.2.2.2.2.2⟩

theorem C_i_LoopFree {n s t d : Int} {v : V} {es : List TEdge} {H : Heap} {K : V → Heap → Prop} (hv : Rd H 3 v (es.map enEdge)) (h : K (.bool (decide (around n es [s, t, d] ∧ lfree n es s t d))) H) : ACalls P n_i_LoopFree [vG n v, .int .i64 s, .int .i64 t, .int .i64 d] H K := by
  have hc := hv.cell
  apply W_i_LoopFree
  unfold F_i_LoopFree
  simp [hc, bsl3]
  refine ⟨_, Abs.sub_refl _, ?_⟩
  intro o ho
  have hw : Held H 1 (([s, t, d] : List Int).map ri) (.slice o 0 3 (some 3)) (upd H o ⟨1, ([s, t, d] : List Int).map ri⟩) := Held.full ho (by simp)
  have hs := hw.sub
  have hvb := hv.mono hs
  refine ⟨hs, ?_⟩
  refine C_i_isAround hvb (hw.rd ri_len) (by simp) ⟨hs, ?_⟩
  simp
  refine ⟨fun ha => ?_, fun q => Ret.shr h (by rw [decide_eq_false (fun hh => q hh.1)]) hs⟩
  have hg := ha.1
  obtain ⟨n1, n2, n3⟩ := nodesOk_three ha.2.2
  refine C_i_Graph_all hvb hg fun u H1 h1 hu => ⟨sub_trans hs h1, ?_⟩
  refine C_i_Graph_loopFree (hvb.mono h1) hg n1 n2 n3 hu ⟨sub_trans hs h1, ?_⟩
  refine Ret.shr h ?_ (sub_trans hs h1)
  by_cases q : lfree n es s t d
  · rw [decide_eq_true q, decide_eq_true ⟨ha, q⟩]
  · rw [decide_eq_false q, decide_eq_false (fun hh => q hh.2)]

/-! #### alternates -/
def altQ (n : Int) (es : List TEdge) (s f d x : Int) : Bool := decide (x ≠ f ∧ lfree n es s x d)
def alts (n : Int) (es : List TEdge) (s f d : Int) : List Int := if near n es s f then fil (altQ n es s f d) n.toNat else []
def altsR (n : Int) (es : List TEdge) (s f d : Int) : List Int := if around n es [s, f, d] then alts n es s f d else []
theorem altsR_len {n : Int} {es : List TEdge} (s f d : Int) : (altsR n es s f d).length ≤ 1000 := by
  unfold altsR
  split
  · rename_i ha
    unfold alts
    have := ha.1.1
    split
    · have := fil_len (altQ n es s f d) n.toNat; omega
    · simp
  · simp
theorem nodesOk_mk {n a b c : Int} (h1 : 0 ≤ a ∧ a < n) (h2 : 0 ≤ b ∧ b < n) (h3 : 0 ≤ c ∧ c < n) : nodesOk n [a, b, c] := fun i hi => by
  simp at hi
  have : i = 0 ∨ i = 1 ∨ i = 2 := by omega
  rcases this with rfl | rfl | rfl <;> simpa

set_option maxHeartbeats 1000000 in
theorem C_s_Alternates {n s f d : Int} {v : V} {es : List TEdge} {H : Heap} {K : V → Heap → Prop} (hv : Rd H 3 v (es.map enEdge)) (h : ∀ u H', Held H 1 ((altsR n es s f d).map ri) u H' → K u H') : ACalls P n_s_Alternates [vG n v, .int .i64 s, .int .i64 f, .int .i64 d] H K := by
  have hc := hv.cell
  apply W_s_Alternates
  unfold F_s_Alternates
  simp [hc, bsl3, bsl_nil]
  intro o1 ho1 o ho
  have h0 := Held.new (sz := 1) ho1
  have hw : Held (upd H o1 ⟨1, []⟩) 1 (([s, f, d] : List Int).map ri) (.slice o 0 3 (some 3)) (upd (upd H o1 ⟨1, []⟩) o ⟨1, ([s, f, d] : List Int).map ri⟩) := Held.full ho (by simp)
  obtain ⟨Hb, g1, g2⟩ := h0.swap hw
  have hs := sub_trans h0.sub hw.sub
  have hvb := hv.mono hs
  refine C_s_l10Good hvb (hw.rd ri_len) (by simp) ?_
  simp
  refine ⟨fun q => Ret.shr (h .nils H (by rw [altsR, if_neg q]; exact Held.nil)) rfl hs, fun ha => ?_⟩
  have hg := ha.1
  have hn := hg.1
  obtain ⟨n1, n2, n3⟩ := nodesOk_three ha.2.2
  have e1 : altsR n es s f d = alts n es s f d := by rw [altsR, if_pos ha]
  rw [e1] at h
  refine C_s_l10Near hvb hg ?_
  simp
  refine ⟨fun q => Ret.shr (h .nils H (by rw [alts, if_neg q]; exact Held.nil)) rfl hs, fun hnear => ?_⟩
  rw [alts, if_pos hnear] at h
  refine ⟨InvFil H n (altQ n es s f d), ⟨n.toNat, Shr.of ⟨0, _, Hb, by omega, rfl, by omega, g1.sub, by simpa [fil] using g2⟩⟩, ?_⟩
  rintro m ys Hc ⟨i, u, Hb, hi, rfl, rfl, hsb, hu⟩
  simp
  refine ⟨fun hlt => ?_, fun hge => ?_⟩
  · have hvc := hv.mono (sub_trans hsb hu.sub)
    have hlen := fil_len (altQ n es s f d) i
    rw [i64_in (n := (i : Int) + 1) (by omega) (by omega)]
    have no : altQ n es s f d (i : Int) = false → ∃ n14, n14 < n.toNat - i ∧ Shr (InvFil H n (altQ n es s f d) n14 [u, .int .i64 ((i : Int) + 1)]) Hc := fun hne =>
      ⟨n.toNat - (i + 1), by omega, Shr.of ⟨i + 1, u, Hb, by omega, by simp, rfl, hsb, by rw [fil_no hne]; exact hu⟩⟩
    refine ⟨fun q1 => ?_, fun q1 => no (decide_eq_false fun hh => hh.1 q1)⟩
    refine C_s_LoopFree hvc ?_
    simp
    refine ⟨fun q2 q3 => ?_, fun q2 => no (decide_eq_false fun hh => ?_)⟩
    · simp [bsl_one]
      intro o3 ho3
      refine hu.append (sub_fresh ho3) (by simp) (by simp; omega) fun v' H' H'' ho' hs' => ?_
      refine ⟨n.toNat - (i + 1), by omega, H'', hs', i + 1, v', Hb, by omega, by simp, rfl, hsb, ?_⟩
      rw [fil_yes (decide_eq_true ⟨q1, q3⟩)]
      simpa using ho'
    · exact q2 ⟨hg, ha.2.1, nodesOk_mk n1 (by omega) n3⟩ hh.2
  · have e : i = n.toNat := by omega
    subst e
    exact Ret.held hu hsb h

theorem C_i_Graph_alternates {n s f d : Int} {v far : V} {es : List TEdge} {H : Heap} {K : V → Heap → Prop} (hv : Rd H 3 v (es.map enEdge)) (hg : graphOk n es) (n1 : 0 ≤ s ∧ s < n) (n3 : 0 ≤ d ∧ d < n) (hf : Rd2 H 1 far (allD n es))
    (h : ∀ u H', Held H 1 ((alts n es s f d).map ri) u H' → K u H') : ACalls P n_i_Graph_alternates [vG n v, .int .i64 s, .int .i64 f, .int .i64 d, far] H K := by
  have hc := hv.cell
  have hn := hg.1
  apply W_i_Graph_alternates
  unfold F_i_Graph_alternates
  simp [hc, bsl_nil]
  intro o1 ho1
  have h0 := Held.new (sz := 1) ho1
  refine C_i_Graph_isNear (hv.mono h0.sub) hg ?_
  simp
  refine ⟨fun q => Ret.of (h _ _ (by rw [alts, if_neg q]; exact h0)), fun hnear => ?_⟩
  rw [alts, if_pos hnear] at h
  refine ⟨InvFil H n (altQ n es s f d), ⟨n.toNat, Shr.of (InvFil.start (by omega) ho1)⟩, ?_⟩
  rintro m ys Hc ⟨i, u, Hb, hi, rfl, rfl, hsb, hu⟩
  simp
  refine ⟨fun hlt => ?_, fun hge => ?_⟩
  · have hvc := hv.mono (sub_trans hsb hu.sub)
    have hlen := fil_len (altQ n es s f d) i
    rw [i64_in (n := (i : Int) + 1) (by omega) (by omega)]
    have no : altQ n es s f d (i : Int) = false → ∃ n14, n14 < n.toNat - i ∧ Shr (InvFil H n (altQ n es s f d) n14 [u, .int .i64 ((i : Int) + 1)]) Hc := fun hne =>
      ⟨n.toNat - (i + 1), by omega, Shr.of ⟨i + 1, u, Hb, by omega, by simp, rfl, hsb, by rw [fil_no hne]; exact hu⟩⟩
    refine ⟨fun q1 => ?_, fun q1 => no (decide_eq_false fun hh => hh.1 q1)⟩
    refine C_i_Graph_loopFree hvc hg n1 (by omega) n3 (hf.mono (sub_trans hsb hu.sub)) ?_
    simp
    refine ⟨fun q2 => ?_, fun q2 => no (decide_eq_false fun hh => q2 hh.2)⟩
    simp [bsl_one]
    intro o3 ho3
    refine hu.append (sub_fresh ho3) (by simp) (by simp; omega) fun v' H' H'' ho' hs' => ?_
    refine ⟨n.toNat - (i + 1), by omega, H'', hs', i + 1, v', Hb, by omega, by simp, rfl, hsb, ?_⟩
    rw [fil_yes (decide_eq_true ⟨q1, q2⟩)]
    simpa using ho'
  · have e : i = n.toNat := by omega
    subst e
    exact Ret.held hu hsb h

theorem C_i_Alternates {n s f d : Int} {v : V} {es : List TEdge} {H : Heap} {K : V → Heap → Prop} (hv : Rd H 3 v (es.map enEdge)) (h : ∀ u H', Held H 1 ((altsR n es s f d).map ri) u H' → K u H') : ACalls P n_i_Alternates [vG n v, .int .i64 s, .int .i64 f, .int .i64 d] H K := by
  have hc := hv.cell
  apply W_i_Alternates
  unfold F_i_Alternates
  simp [hc, bsl3]
  intro o ho
  have hw : Held H 1 (([s, f, d] : List Int).map ri) (.slice o 0 3 (some 3)) (upd H o ⟨1, ([s, f, d] : List Int).map ri⟩) := Held.full ho (by simp)
  have hs := hw.sub
  have hvb := hv.mono hs
  refine C_i_isAround hvb (hw.rd ri_len) (by simp) ?_
  simp
  refine ⟨fun q => Ret.shr (h .nils H (by rw [altsR, if_neg q]; exact Held.nil)) rfl hs, fun ha => ?_⟩
  have hg := ha.1
  obtain ⟨n1, n2, n3⟩ := nodesOk_three ha.2.2
  rw [altsR, if_pos ha] at h
  refine ⟨_, Abs.sub_refl _, ?_⟩
  refine C_i_Graph_all hvb hg fun u H1 h1 hu => ⟨h1, ?_⟩
  refine C_i_Graph_alternates (hvb.mono h1) hg n1 n3 hu fun w H2 hw2 => ⟨sub_trans h1 hw2.sub, ?_⟩
  exact Ret.held hw2 (sub_trans hs h1) h

end Go.Proofs.Ytipdfhjilegkcaa
