/-
Plain terms: each edge of a description's graph has one back; a route's next hop is joined.
-/
import Derived.Test.YtaippfedjjjpeaaPfxX
set_option linter.all false
namespace Go.Proofs.Ytaippfedjjjpeaa
open Go Go.Abs Go.Proofs

theorem says_has {xs : List TLsa} {o t : Int} (hd : dbOk xs) (h : says xs o t = true) : ∃ i, ∃ hi : i < xs.length, xs[i].origin = o ∧ hasTo xs[i].links t = true := by
  by_cases e : ∀ i, i < xs.length → og xs i ≠ o
  · rw [says_no e] at h; simp at h
  · obtain ⟨i, e⟩ := Classical.not_forall.1 e
    obtain ⟨hi, e⟩ := Classical.not_imp.1 e
    have e : og xs i = o := Classical.not_not.1 e
    rw [says_at hd hi e] at h
    exact ⟨i, hi, by rw [← og_get hi]; exact e, h⟩
theorem hasTo_mem {ls : List TLink} {t : Int} : hasTo ls t = true ↔ ∃ k ∈ ls, k.1 = t := by
  unfold hasTo
  simp only [decide_eq_true_eq]
  constructor
  · rintro ⟨i, hi, e⟩
    exact ⟨ls[i], List.getElem_mem hi, by simpa [lto, hi] using e⟩
  · rintro ⟨k, hk, rfl⟩
    obtain ⟨i, hi, rfl⟩ := List.mem_iff_getElem.1 hk
    exact ⟨i, hi, by simp [lto, hi]⟩
theorem edge_back {xs : List TLsa} (hd : dbOk xs) {e : TEdge} (he : e ∈ edgesOf xs xs) : ∃ c, (e.2.1, e.1, c) ∈ edgesOf xs xs := by
  obtain ⟨a, ha, he⟩ := List.mem_flatMap.1 he
  unfold eOf at he
  obtain ⟨k, hk, rfl⟩ := List.mem_map.1 he
  obtain ⟨hk, hs⟩ := List.mem_filter.1 hk
  obtain ⟨i, hi, e1, e2⟩ := says_has hd hs
  obtain ⟨k', hk', e3⟩ := hasTo_mem.1 e2
  obtain ⟨j, hj, rfl⟩ := List.mem_iff_getElem.1 ha
  refine ⟨k'.2, List.mem_flatMap.2 ⟨xs[i], List.getElem_mem hi, ?_⟩⟩
  unfold eOf
  refine List.mem_map.2 ⟨k', List.mem_filter.2 ⟨hk', ?_⟩, by rw [e1, e3]⟩
  rw [says_at hd hj (by rw [og_get hj, e3])]
  exact hasTo_mem.2 ⟨k, hk, e1.symm⟩
theorem cost_edge {es : List TEdge} (hg : graphOk 10 es) {e : TEdge} (he : e ∈ es) : cost 10 es e.1 e.2.1 ≠ 1000000 := by
  have ok := edge_ok hg he
  rw [cost_look ok.2.2.1, look_edge hg he]
  omega
theorem hops_edge {n : Int} {es : List TEdge} {a b x : Int} (h : x ∈ hops n es a b) : ∃ e ∈ es, e.1 = a ∧ e.2.1 = x := by
  unfold hops at h
  split at h
  · simp at h
  · obtain ⟨e, e1, e2⟩ := List.mem_filterMap.1 h
    unfold hopAt at e2
    split at e2
    · rename_i q
      exact ⟨e, e1, q.1, by simpa using e2⟩
    · simp at e2
theorem hop_cost {xs : List TLsa} {es : List TEdge} {f : Int} {ps : List (Int × Int)} (hd : dbOk xs) (hg : graphOk 10 es) (hf : 0 ≤ f ∧ f < 10) {r : TStub} (hr : r ∈ rtsR xs es f ps) (hp : 0 < r.2.2) : cost 10 es f (r.2.2 - 1) ≠ 1000000 := by
  obtain ⟨p, _, hr⟩ := List.mem_filterMap.1 hr
  unfold oneR at hr
  split at hr
  · simp at hr
  rename_i hne
  obtain rfl : (p.1, p.2, hopP es f (nearF p (far 10 es f) (prs xs)).1) = r := by simpa using hr
  have nk := near_ok (p := p) (ds := far 10 es f) hd
  generalize (nearF p (far 10 es f) (prs xs)).1 = L at *
  simp only at hp ⊢
  unfold hopP at hp ⊢
  split at hp
  · omega
  rename_i hfL
  rw [if_neg hfL, show 1 + minL (hopsA es f L) - 1 = minL (hopsA es f L) by omega]
  have hA : hopsA es f L ≠ [] := by
    cases L with
    | nil => exact absurd rfl hne
    | cons o L =>
      have ⟨o1, o2, o3⟩ := nk o (by simp)
      have := hops_ne hg hf ⟨o2, o3⟩ (fun e => hfL (by simp [e])) o1
      unfold hopsA
      simp only [List.flatMap_cons]
      intro e
      exact this (List.append_eq_nil_iff.1 e).1
  have hm := (minL_spec hA).1
  unfold hopsA at hm
  obtain ⟨o, ho, hm⟩ := List.mem_flatMap.1 hm
  obtain ⟨e, e1, e2, e3⟩ := hops_edge hm
  have := cost_edge hg e1
  rw [e2, e3] at this
  exact this
theorem hop_le {xs : List TLsa} {es : List TEdge} {f : Int} {ps : List (Int × Int)} (hd : dbOk xs) (hg : graphOk 10 es) (hf : 0 ≤ f ∧ f < 10) {r : TStub} (hr : r ∈ rtsR xs es f ps) : r.2.2 ≤ 10 := by
  obtain ⟨p, _, hr⟩ := List.mem_filterMap.1 hr
  unfold oneR at hr
  split at hr
  · simp at hr
  rename_i hne
  obtain rfl : (p.1, p.2, hopP es f (nearF p (far 10 es f) (prs xs)).1) = r := by simpa using hr
  have nk := near_ok (p := p) (ds := far 10 es f) hd
  generalize (nearF p (far 10 es f) (prs xs)).1 = L at *
  simp only
  unfold hopP
  split
  · omega
  rename_i hfL
  have hA : hopsA es f L ≠ [] := by
    cases L with
    | nil => exact absurd rfl hne
    | cons o L =>
      have ⟨o1, o2, o3⟩ := nk o (by simp)
      have := hops_ne hg hf ⟨o2, o3⟩ (fun e => hfL (by simp [e])) o1
      unfold hopsA
      simp only [List.flatMap_cons]
      intro e
      exact this (List.append_eq_nil_iff.1 e).1
  have hm := (minL_spec hA).1
  generalize minL (hopsA es f L) = mm at hm ⊢
  unfold hopsA at hm
  obtain ⟨o, _, hm⟩ := List.mem_flatMap.1 hm
  have := hops_in hg hm
  omega
end Go.Proofs.Ytaippfedjjjpeaa
