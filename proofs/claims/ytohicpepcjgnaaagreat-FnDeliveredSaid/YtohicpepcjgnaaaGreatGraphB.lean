/-
Contracts of the smallest functions over graphs.
-/
import Derived.Test.YtohicpepcjgnaaaGreatGraphA
import Derived.Test.YtohicpepcjgnaaaGreatInts
set_option linter.all false
namespace Go.Proofs.YtohicpepcjgnaaaGreat
open Go Go.Abs Go.Proofs

abbrev vG (n : Int) (v : V) : V := .agg [.int .i64 n, v]

theorem C_s_l03Node {n x : Int} {v : V} {es : List TEdge} {H : Heap} {K : V → Heap → Prop} (hv : Rd H 3 v (es.map enEdge)) (hn : 1 ≤ n ∧ n ≤ 10) (h : K (.bool (decide (0 ≤ x ∧ x < n))) H) : ACalls P n_s_l03Node [vG n v, .int .i64 x] H K := by
  have hc := hv.cell
  apply W_s_l03Node
  unfold F_s_l03Node
  simp [hc]
  apply C_s_l01In
  rw [i64_in (n := n - 1) (by omega) (by omega)]
  exact Ret.iff h (by omega)
theorem C_i_Graph_isNode {n x : Int} {v : V} {es : List TEdge} {H : Heap} {K : V → Heap → Prop} (hv : Rd H 3 v (es.map enEdge)) (hn : 1 ≤ n ∧ n ≤ 10) (h : K (.bool (decide (0 ≤ x ∧ x < n))) H) : ACalls P n_i_Graph_isNode [vG n v, .int .i64 x] H K := by
  have hc := hv.cell
  apply W_i_Graph_isNode
  unfold F_i_Graph_isNode
  simp [hc]
  apply C_i_within
  rw [i64_in (n := n - 1) (by omega) (by omega)]
  exact Ret.iff h (by omega)
theorem C_i_compareEdges {a b : TEdge} {H : Heap} {K : V → Heap → Prop} (h : K (.int .i64 (if a.1 ≠ b.1 then IntKind.i64.wrap (a.1 - b.1) else IntKind.i64.wrap (a.2.1 - b.2.1))) H) :
    ACalls P n_i_compareEdges [.agg (enEdge a), .agg (enEdge b)] H K := by
  apply W_i_compareEdges
  unfold F_i_compareEdges
  simp
  refine ⟨fun h1 => Ret.eq h (by simp [h1]), fun h1 => Ret.eq h (by simp [h1])⟩

theorem graphOk_no {n : Int} {es : List TEdge} {i : Nat} (hi : i < es.length) (h : ¬ okAt n es i) : ¬ graphOk n es := by
  exact fun hg => h (hg.2.2 i hi)

def InvO (n : Int) (v : V) (es : List TEdge) (H : Heap) (m : Nat) (ys : List V) (Hc : Heap) : Prop :=
  ∃ i, i ≤ es.length ∧ ys = [.box [.int .i64 n, v], .int .i64 (i : Nat)] ∧ m = es.length - i ∧ Hc = H ∧ ∀ j, j < i → okAt n es j

set_option maxHeartbeats 1000000 in
theorem C_s_GraphOk {n : Int} {v : V} {es : List TEdge} {H : Heap} {K : V → Heap → Prop} (hv : Rd H 3 v (es.map enEdge)) (h : K (.bool (decide (graphOk n es))) H) : ACalls P n_s_GraphOk [vG n v] H K := by
  have hc := hv.cell
  apply W_s_GraphOk
  unfold F_s_GraphOk
  simp [hc]
  apply C_s_l01In
  simp
  refine ⟨fun h0 => Ret.no h fun hg => by have := hg.1; omega, fun h0 h1 => ?_⟩
  simp [hv.len]
  refine ⟨fun h2 => Ret.no h fun hg => by have := hg.2.1; omega, fun h2 => ?_⟩
  refine ⟨InvO n v es H, ⟨es.length, Shr.of ⟨0, by omega, by simp, by omega, rfl, fun j hj => absurd hj (by omega)⟩⟩, ?_⟩
  rintro m ys Hc ⟨i, hi, rfl, rfl, rfl, hok⟩
  simp [hv.len]
  refine ⟨fun hlt => ?_, fun hge => ?_⟩
  · refine hv.idx (by omega) (by simpa using hlt) fun p hp => ?_
    simp only [hp.ld]
    simp [hlt, stz_eq, putCells]
    have he := ed_get hlt
    refine C_s_l03Node hv (by omega) ?_
    simp
    refine ⟨fun q => Ret.no h (graphOk_no hlt fun ho => ?_), fun q1 q2 => ?_⟩
    · have := ho.1; rw [he] at this; omega
    refine C_s_l03Node hv (by omega) ?_
    simp
    refine ⟨fun q => Ret.no h (graphOk_no hlt fun ho => ?_), fun q3 q4 => ?_⟩
    · have := ho.2.1; rw [he] at this; omega
    refine ⟨fun q => Ret.no h (graphOk_no hlt fun ho => ?_), fun q5 => ?_⟩
    · have := ho.2.2.1; rw [he] at this; omega
    apply C_s_l01In
    simp
    refine ⟨fun q => Ret.no h (graphOk_no hlt fun ho => ?_), fun q6 q7 => ?_⟩
    · have := ho.2.2.2.1; rw [he] at this; omega
    rw [i64_in (n := (i : Int) + 1) (by omega) (by omega)]
    have next : (0 < i → ((ed es (i - 1)).1 < (ed es i).1 ∨ (ed es (i - 1)).1 = (ed es i).1 ∧ (ed es (i - 1)).2.1 < (ed es i).2.1)) → ∃ n11, n11 < es.length - i ∧ Shr (InvO n v es Hc n11 [.box [.int .i64 n, v], .int .i64 ((i : Int) + 1)]) Hc := fun hl =>
      ⟨es.length - (i + 1), by omega, Shr.of ⟨i + 1, by omega, by simp, rfl, rfl, fun j hj => by
        by_cases e : j = i
        · subst e
          refine ⟨?_, ?_, ?_, ?_, hl⟩ <;> rw [he] <;> omega
        · exact hok j (by omega)⟩⟩
    refine ⟨fun q8 => ?_, fun q8 => next fun hh => absurd hh (by omega)⟩
    have hlt' : i - 1 < es.length := by omega
    have he' := ed_get hlt'
    have e1 : ((i : Int) - 1).toNat = i - 1 := by omega
    rw [i64_in (n := (i : Int) - 1) (by omega) (by omega)]
    refine hv.idx (by omega) (by simp; omega) fun p' hp' => ?_
    simp only [hp'.ld, e1]
    simp [hlt', stz_eq, putCells]
    refine ⟨fun q => Ret.no h (graphOk_no hlt fun ho => ?_), fun q9 => ⟨fun q10 => ⟨fun q11 => Ret.no h (graphOk_no hlt fun ho => ?_), fun q11 => next fun _ => ?_⟩, fun q10 => next fun _ => ?_⟩⟩
    · have := ho.2.2.2.2 (by omega); rw [he, he'] at this; omega
    · have := ho.2.2.2.2 (by omega); rw [he, he'] at this; omega
    · rw [he, he']; omega
    · rw [he, he']; omega
  · have : i = es.length := by omega
    subst this
    exact Ret.yes h ⟨by omega, by omega, hok⟩

end Go.Proofs.YtohicpepcjgnaaaGreat
