/-
Contracts: GraphOk of the program, costs, the laws' helpers over graphs.
-/
import Derived.Test.YtohicpepcjgnaaaGreatGraphB
set_option linter.all false
namespace Go.Proofs.YtohicpepcjgnaaaGreat
open Go Go.Abs Go.Proofs

set_option maxHeartbeats 1000000 in
theorem C_i_GraphOk {n : Int} {v : V} {es : List TEdge} {H : Heap} {K : V → Heap → Prop} (hv : Rd H 3 v (es.map enEdge)) (h : K (.bool (decide (graphOk n es))) H) : ACalls P n_i_GraphOk [vG n v] H K := by
  have hc := hv.cell
  apply W_i_GraphOk
  unfold F_i_GraphOk
  simp [hc]
  apply C_i_within
  simp
  refine ⟨fun h0 => Ret.no h fun hg => by have := hg.1; omega, fun h0 h1 => ?_⟩
  simp [hv.len]
  refine ⟨fun h2 => Ret.no h fun hg => by have := hg.2.1; omega, fun h2 => ?_⟩
  refine ⟨InvO n v es H, ⟨es.length, Shr.of ⟨0, by omega, by simp, by omega, rfl, fun j hj => absurd hj (by omega)⟩⟩, ?_⟩
  rintro m ys Hc ⟨i, hi, rfl, rfl, rfl, hok⟩
  simp
  refine ⟨fun hlt => ?_, fun hge => ?_⟩
  · refine hv.idx (by omega) (by simpa using hlt) fun p hp => ?_
    simp only [hp.ld]
    simp [hlt, stz_eq, putCells]
    refine ⟨_, Abs.sub_refl _, ?_⟩
    have he := ed_get hlt
    refine C_i_Graph_isNode hv (by omega) ?_
    simp
    refine ⟨fun q => Ret.no h (graphOk_no hlt fun ho => ?_), fun q1 q2 => ?_⟩
    · have := ho.1; rw [he] at this; omega
    refine C_i_Graph_isNode hv (by omega) ?_
    simp
    refine ⟨fun q => Ret.no h (graphOk_no hlt fun ho => ?_), fun q3 q4 => ?_⟩
    · have := ho.2.1; rw [he] at this; omega
    refine ⟨fun q => Ret.no h (graphOk_no hlt fun ho => ?_), fun q5 => ?_⟩
    · have := ho.2.2.1; rw [he] at this; omega
    apply C_i_within
    simp
    refine ⟨fun q => Ret.no h (graphOk_no hlt fun ho => ?_), fun q6 q7 => ?_⟩
    · have := ho.2.2.2.1; rw [he] at this; omega
    rw [i64_in (n := (i : Int) + 1) (by omega) (by omega)]
    have next : (0 < i → ((ed es (i - 1)).1 < (ed es i).1 ∨ (ed es (i - 1)).1 = (ed es i).1 ∧ (ed es (i - 1)).2.1 < (ed es i).2.1)) → ∃ n11, n11 < es.length - i ∧ Shr (InvO n v es Hc n11 [.box [.int .i64 n, v], .int .i64 ((i : Int) + 1)]) Hc := fun hl =>
      ⟨es.length - (i + 1), by omega, Shr.of ⟨i + 1, by omega, by simp, rfl, rfl, fun j hj => by
        by_cases e : j = i
        · subst e
          refine ⟨?_, ?_, ?_, ?_, hl⟩ <;> rw [he] <;> omega
        · exact hok j (by omega)⟩⟩
    refine ⟨fun q8 => ?_, fun q8 => next fun hh => absurd hh (by omega)⟩
    have hlt' : i - 1 < es.length := by omega
    have he' := ed_get hlt'
    have e1 : ((i : Int) - 1).toNat = i - 1 := by omega
    rw [i64_in (n := (i : Int) - 1) (by omega) (by omega)]
    refine hv.idx (by omega) (by simp; omega) fun p' hp' => ?_
    simp only [hp'.ld, e1]
    simp [hlt', stz_eq, putCells]
    have ok' := hok (i - 1) (by omega)
    rw [okAt, he'] at ok'
    apply C_i_compareEdges
    simp
    by_cases q9 : es[i - 1].1 = es[i].1
    · rw [if_pos q9, i64_in (by omega) (by omega)]
      refine ⟨fun q => Ret.no h (graphOk_no hlt fun ho => ?_), fun q => next fun _ => ?_⟩
      · have := ho.2.2.2.2 (by omega); rw [he, he'] at this; omega
      · rw [he, he']; omega
    · rw [if_neg q9, i64_in (by omega) (by omega)]
      refine ⟨fun q => Ret.no h (graphOk_no hlt fun ho => ?_), fun q => next fun _ => ?_⟩
      · have := ho.2.2.2.2 (by omega); rw [he, he'] at this; omega
      · rw [he, he']; omega
  · have : i = es.length := by omega
    subst this
    exact Ret.yes h ⟨by omega, by omega, hok⟩

def InvL (es : List TEdge) (a b : Int) (H : Heap) (m : Nat) (ys : List V) (Hc : Heap) : Prop :=
  ∃ i, i ≤ es.length ∧ ys = [.int .i64 (i : Nat)] ∧ m = es.length - i ∧ Hc = H ∧ ∀ j, j < i → ¬ ((ed es j).1 = a ∧ (ed es j).2.1 = b)

theorem cost_same {n : Int} {es : List TEdge} {a : Int} (h : 0 ≤ a ∧ a < n) : cost n es a a = 0 := by unfold cost; rw [if_pos ⟨rfl, h⟩]
theorem cost_look {n : Int} {es : List TEdge} {a b : Int} (h : a ≠ b) : cost n es a b = look es a b := by unfold cost; rw [if_neg fun hh => h hh.1]
theorem cost_out {n : Int} {es : List TEdge} {a b : Int} (hg : graphOk n es) (h : ¬ (0 ≤ a ∧ a < n) ∨ ¬ (0 ≤ b ∧ b < n)) : cost n es a b = 1000000 := by
  unfold cost
  by_cases e : a = b ∧ 0 ≤ a ∧ a < n
  · omega
  · rw [if_neg e]
    rcases look_cases hg a b with q | ⟨_, q⟩
    · exact q
    · omega

theorem C_s_l03Cost {n a b : Int} {v : V} {es : List TEdge} {H : Heap} {K : V → Heap → Prop} (hv : Rd H 3 v (es.map enEdge)) (hg : graphOk n es) (h : K (.int .i64 (cost n es a b)) H) : ACalls P n_s_l03Cost [vG n v, .int .i64 a, .int .i64 b] H K := by
  have hc := hv.cell
  have hn := hg.1
  have hl := hg.2.1
  apply W_s_l03Cost
  unfold F_s_l03Cost
  simp [hc]
  refine C_s_l03Node hv hn ?_
  simp
  refine ⟨fun q => Ret.eq h (by rw [cost_out hg (by omega)]), fun q1 q2 => ?_⟩
  refine C_s_l03Node hv hn ?_
  simp
  refine ⟨fun q => Ret.eq h (by rw [cost_out hg (by omega)]), fun q3 q4 => ?_⟩
  refine ⟨fun q => Ret.eq h (by rw [q, cost_same (by omega)]), fun q5 => ?_⟩
  rw [cost_look q5] at h
  refine ⟨InvL es a b H, ⟨es.length, Shr.of ⟨0, by omega, by simp, by omega, rfl, fun j hj => absurd hj (by omega)⟩⟩, ?_⟩
  rintro m ys Hc ⟨i, hi, rfl, rfl, rfl, hok⟩
  simp [hv.len]
  refine ⟨fun hlt => ?_, fun hge => ?_⟩
  · have he := ed_get hlt
    rw [i64_in (n := (i : Int) + 1) (by omega) (by omega)]
    have next : ¬ (es[i].1 = a ∧ es[i].2.1 = b) → ∃ n11, n11 < es.length - i ∧ Shr (InvL es a b Hc n11 [.int .i64 ((i : Int) + 1)]) Hc := fun hne =>
      ⟨es.length - (i + 1), by omega, Shr.of ⟨i + 1, by omega, by simp, rfl, rfl, fun j hj => by
        by_cases e : j = i
        · subst e; rw [he]; exact hne
        · exact hok j (by omega)⟩⟩
    refine hv.idx (by omega) (by simpa using hlt) fun p hp => ?_
    refine hp.fld fun p1 hp1 => ?_
    simp only [hp1.ld]
    simp [hlt]
    refine ⟨fun q => ?_, fun q => next fun hh => q hh.1⟩
    refine hv.idx (by omega) (by simpa using hlt) fun p hp => ?_
    refine hp.fld fun p1 hp1 => ?_
    simp only [hp1.ld]
    simp [hlt]
    refine ⟨fun q' => ?_, fun q' => next fun hh => q' hh.2⟩
    refine hv.idx (by omega) (by simpa using hlt) fun p hp => ?_
    refine hp.fld fun p1 hp1 => ?_
    simp only [hp1.ld]
    simp [hlt]
    refine Ret.eq h ?_
    rw [look_hit hlt (by rw [he]; exact q) (by rw [he]; exact q') hok, he]
  · have : i = es.length := by omega
    subst this
    exact Ret.eq h (by rw [look_none hok])

theorem C_i_Graph_cost {n a b : Int} {v : V} {es : List TEdge} {H : Heap} {K : V → Heap → Prop} (hv : Rd H 3 v (es.map enEdge)) (hg : graphOk n es) (h : K (.int .i64 (cost n es a b)) H) : ACalls P n_i_Graph_cost [vG n v, .int .i64 a, .int .i64 b] H K := by
  have hc := hv.cell
  have hn := hg.1
  have hl := hg.2.1
  have key : ¬ (a = b ∧ 0 ≤ a ∧ a < n) → ∀ (A B : Prop), True := fun _ _ _ => trivial
  apply W_i_Graph_cost
  unfold F_i_Graph_cost
  simp [hc, hv.len]
  refine ⟨fun q5 => ?_, fun q5 => ?_⟩
  · refine C_i_Graph_isNode hv hn ?_
    simp
    refine ⟨fun q1 q2 => Ret.eq h (by rw [← q5, cost_same (by omega)]), fun q6 => ?_⟩
    have hco : cost n es a b = look es a b := by unfold cost; rw [if_neg (by omega)]
    rw [hco] at h
    refine ⟨InvL es a b H, ⟨es.length, Shr.of ⟨0, by omega, by simp, by omega, rfl, fun j hj => absurd hj (by omega)⟩⟩, ?_⟩
    rintro m ys Hc ⟨i, hi, rfl, rfl, rfl, hok⟩
    simp
    refine ⟨fun hlt => ?_, fun hge => ?_⟩
    · have he := ed_get hlt
      rw [i64_in (n := (i : Int) + 1) (by omega) (by omega)]
      have next : ¬ (es[i].1 = a ∧ es[i].2.1 = b) → ∃ n11, n11 < es.length - i ∧ Shr (InvL es a b Hc n11 [.int .i64 ((i : Int) + 1)]) Hc := fun hne =>
        ⟨es.length - (i + 1), by omega, Shr.of ⟨i + 1, by omega, by simp, rfl, rfl, fun j hj => by
          by_cases e : j = i
          · subst e; rw [he]; exact hne
          · exact hok j (by omega)⟩⟩
      refine hv.idx (by omega) (by simpa using hlt) fun p hp => ?_
      simp only [hp.ld]
      simp [hlt, stz_eq, putCells]
      refine ⟨fun q => ⟨fun q' => ?_, fun q' => next fun hh => q' hh.2⟩, fun q => next fun hh => q hh.1⟩
      refine Ret.eq h ?_
      rw [look_hit hlt (by rw [he]; exact q) (by rw [he]; exact q') hok, he]
    · have : i = es.length := by omega
      subst this
      exact Ret.eq h (by rw [look_none hok])
  · have hco : cost n es a b = look es a b := cost_look q5
    rw [hco] at h
    refine ⟨InvL es a b H, ⟨es.length, Shr.of ⟨0, by omega, by simp, by omega, rfl, fun j hj => absurd hj (by omega)⟩⟩, ?_⟩
    rintro m ys Hc ⟨i, hi, rfl, rfl, rfl, hok⟩
    simp
    refine ⟨fun hlt => ?_, fun hge => ?_⟩
    · have he := ed_get hlt
      rw [i64_in (n := (i : Int) + 1) (by omega) (by omega)]
      have next : ¬ (es[i].1 = a ∧ es[i].2.1 = b) → ∃ n11, n11 < es.length - i ∧ Shr (InvL es a b Hc n11 [.int .i64 ((i : Int) + 1)]) Hc := fun hne =>
        ⟨es.length - (i + 1), by omega, Shr.of ⟨i + 1, by omega, by simp, rfl, rfl, fun j hj => by
          by_cases e : j = i
          · subst e; rw [he]; exact hne
          · exact hok j (by omega)⟩⟩
      refine hv.idx (by omega) (by simpa using hlt) fun p hp => ?_
      simp only [hp.ld]
      simp [hlt, stz_eq, putCells]
      refine ⟨fun q => ⟨fun q' => ?_, fun q' => next fun hh => q' hh.2⟩, fun q => next fun hh => q hh.1⟩
      refine Ret.eq h ?_
      rw [look_hit hlt (by rw [he]; exact q) (by rw [he]; exact q') hok, he]
    · have : i = es.length := by omega
      subst this
      exact Ret.eq h (by rw [look_none hok])

/-! #### the laws' helpers -/
end Go.Proofs.YtohicpepcjgnaaaGreat
