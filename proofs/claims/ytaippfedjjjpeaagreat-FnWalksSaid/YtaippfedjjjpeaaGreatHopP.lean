/-
Plain terms: next hops of what can be reached; the least of a list.
-/
import Derived.Test.YtaippfedjjjpeaaGreatDist
import Derived.Test.YtaippfedjjjpeaaGreatNearC
set_option linter.all false
namespace Go.Proofs.YtaippfedjjjpeaaGreat
open Go Go.Abs Go.Proofs

theorem way_first {es : List TEdge} {a : Int} : ∀ {b c : Int}, Way es a b c → (a = b ∧ c = 0) ∨ ∃ e ∈ es, e.1 = a ∧ Way es e.2.1 b (c - e.2.2) := by
  intro b c h
  induction h with
  | nil => exact .inl ⟨rfl, rfl⟩
  | snoc hw he hx ih =>
    rename_i b' c' e'
    rcases ih with ⟨q1, q2⟩ | ⟨e, e1, e2, e3⟩
    · refine .inr ⟨e', he, by rw [hx, q1], ?_⟩
      rw [q2, show (0 : Int) + e'.2.2 - e'.2.2 = 0 by omega]
      exact .nil
    · refine .inr ⟨e, e1, e2, ?_⟩
      have := e3.snoc he hx
      rwa [show c' - e.2.2 + e'.2.2 = c' + e'.2.2 - e.2.2 by omega] at this
theorem hops_ne {n : Int} {es : List TEdge} (hg : graphOk n es) {a b : Int} (ha : 0 ≤ a ∧ a < n) (hb : 0 ≤ b ∧ b < n) (hne : a ≠ b) (h : far n es a b ≠ 1000000) : hops n es a b ≠ [] := by
  have hf := far_in hg a hb.1 hb.2
  rcases way_first (far_way hg ha hb (by omega)) with ⟨q, _⟩ | ⟨e, e1, e2, e3⟩
  · exact absurd q hne
  · have ok := edge_ok hg e1
    have l1 := far_le hg ok.2.1 e3
    have f2 := far_in hg e.2.1 hb.1 hb.2
    have w2 := Way.cons e1 (far_way hg ok.2.1 hb (by omega))
    rw [e2] at w2
    have l2 := far_le hg ha w2
    intro q
    unfold hops at q
    rw [if_neg (by omega)] at q
    have hm : e.2.1 ∈ es.filterMap (hopAt n es a b) := List.mem_filterMap.2 ⟨e, e1, by unfold hopAt; rw [if_pos ⟨e2, by omega⟩]⟩
    rw [q] at hm
    simp at hm
theorem hops_len (n : Int) (es : List TEdge) (a b : Int) : (hops n es a b).length ≤ es.length := by
  unfold hops
  split
  · simp
  · exact List.length_filterMap_le ..
theorem hops_in {n : Int} {es : List TEdge} (hg : graphOk n es) {a b x : Int} (h : x ∈ hops n es a b) : 0 ≤ x ∧ x < n := by
  unfold hops at h
  split at h
  · simp at h
  · obtain ⟨e, e1, e2⟩ := List.mem_filterMap.1 h
    unfold hopAt at e2
    split at e2
    · have := (edge_ok hg e1).2.1
      have : e.2.1 = x := by simpa using e2
      omega
    · simp at e2
def minL (L : List Int) : Int := match L with | [] => 0 | x :: r => r.foldl min x
theorem minL_fold (x : Int) : ∀ (r : List Int), r.foldl min x ≤ x ∧ (∀ y ∈ r, r.foldl min x ≤ y) ∧ (r.foldl min x = x ∨ r.foldl min x ∈ r) := by
  intro r
  induction r generalizing x with
  | nil => simp
  | cons z r ih =>
    obtain ⟨h1, h2, h3⟩ := ih (min x z)
    simp only [List.foldl_cons]
    refine ⟨by omega, fun y hy => ?_, ?_⟩
    · rcases List.mem_cons.1 hy with rfl | hy
      · omega
      · exact h2 y hy
    · rcases h3 with q | q
      · by_cases e : x ≤ z
        · left; rw [q]; omega
        · right; rw [q, show min x z = z by omega]; simp
      · right; exact List.mem_cons_of_mem _ q
theorem minL_spec {L : List Int} (h : L ≠ []) : minL L ∈ L ∧ ∀ y ∈ L, minL L ≤ y := by
  cases L with
  | nil => exact absurd rfl h
  | cons x r =>
    obtain ⟨h1, h2, h3⟩ := minL_fold x r
    refine ⟨?_, fun y hy => ?_⟩
    · rcases h3 with q | q
      · exact List.mem_cons.2 (.inl q)
      · exact List.mem_cons_of_mem _ q
    · rcases List.mem_cons.1 hy with rfl | hy
      · exact h1
      · exact h2 y hy
theorem minL_uniq {L : List Int} {m : Int} (h1 : m ∈ L) (h2 : ∀ y ∈ L, m ≤ y) : minL L = m := by
  have hne : L ≠ [] := fun q => by rw [q] at h1; simp at h1
  obtain ⟨g1, g2⟩ := minL_spec hne
  have := h2 _ g1
  have := g2 _ h1
  omega
theorem minL_take {L : List Int} {i : Nat} (h0 : 0 < i) (hi : i < L.length) : minL (L.take (i + 1)) = min (minL (L.take i)) L[i] := by
  cases L with
  | nil => simp at hi
  | cons x r =>
    obtain ⟨k, rfl⟩ : ∃ k, i = k + 1 := ⟨i - 1, by omega⟩
    have hk : k < r.length := by simpa using hi
    simp only [List.take_succ_cons, List.getElem_cons_succ]
    show (r.take (k + 1)).foldl min x = _
    rw [List.take_succ_eq_append_getElem hk, List.foldl_append]
    rfl
def InvMn (H : Heap) (L : List Int) (m : Nat) (ys : List V) (Hc : Heap) : Prop :=
  ∃ i : Nat, 1 ≤ i ∧ i ≤ L.length ∧ ys = [.int .i64 (minL (L.take i)), .int .i64 (i : Nat)] ∧ m = L.length - i ∧ Hc = H
theorem C_slices_Min {L : List Int} {v : V} {H : Heap} {K : V → Heap → Prop} (hv : Rd H 1 v (L.map ri)) (hne : L ≠ []) (hl : L.length ≤ 1048576) (h : K (.int .i64 (minL L)) H) : ACalls P n_slices_Min_int_int [v] H K := by
  have hpos : 0 < L.length := List.length_pos_iff.2 hne
  apply W_slices_Min_int_int
  unfold F_slices_Min_int_int
  simp [hv.len]
  refine ⟨by omega, fun _ => ?_⟩
  have hgd : ∀ j, (hj : j < L.length) → (L.map ri).getD j [] = ri L[j] := fun j hj => by simp [hj]
  refine hv.idx (by omega) (by simpa using hpos) fun p hp => ?_
  rw [show ((0 : Int).toNat) = 0 from rfl, hgd 0 hpos] at hp
  rw [hp.ld]
  simp [ri]
  refine ⟨InvMn H L, ⟨L.length - 1, Shr.of ⟨1, by omega, by omega, ?_, by omega, rfl⟩⟩, ?_⟩
  · have : L.take 1 = [L[0]] := by
      rw [List.take_succ_eq_append_getElem hpos]; simp
    rw [this]
    rfl
  rintro m ys Hc ⟨i, h1, hi, rfl, rfl, rfl⟩
  simp
  rw [i64_in (n := (i : Int) + 1) (by omega) (by omega)]
  refine ⟨fun hlt => ?_, fun hge => ?_⟩
  · refine hv.idx (by omega) (by simpa using hlt) fun p hp => ?_
    simp only [Int.toNat_natCast, hgd i hlt] at hp
    rw [hp.ld]
    simp [ri]
    rw [aMins_two]
    simp
    refine ⟨L.length - (i + 1), by omega, Shr.of ⟨i + 1, by omega, by omega, ?_, rfl, rfl⟩⟩
    rw [minL_take (by omega) hlt]
    simp
  · have : i = L.length := by omega
    subst this
    rw [List.take_length]
    exact Ret.of h

end Go.Proofs.YtaippfedjjjpeaaGreat
