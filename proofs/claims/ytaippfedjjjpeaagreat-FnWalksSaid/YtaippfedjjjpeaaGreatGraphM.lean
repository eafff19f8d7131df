/-
Contracts of the smallest functions over graphs.
-/
import Derived.Test.YtaippfedjjjpeaaGreatGraphA
import Derived.Test.YtaippfedjjjpeaaGreatInts
set_option linter.all false
namespace Go.Proofs.YtaippfedjjjpeaaGreat
open Go Go.Abs Go.Proofs

abbrev vG (n : Int) (v : V) : V := .agg [.int .i64 n, v]

theorem C_s_l03Node {n x : Int} {v : V} {es : List TEdge} {H : Heap} {K : V → Heap → Prop} (hv : Rd H 3 v (es.map enEdge)) (hn : 1 ≤ n ∧ n ≤ 10) (h : K (.bool (decide (0 ≤ x ∧ x < n))) H) : ACalls P n_s_l03Node [vG n v, .int .i64 x] H K := by
  have hc := hv.cell
  apply W_s_l03Node
  unfold F_s_l03Node
  simp [hc]
  apply C_s_l01In
  rw [i64_in (n := n - 1) (by omega) (by omega)]
  exact Ret.iff h (by omega)
theorem C_i_Graph_isNode {n x : Int} {v : V} {es : List TEdge} {H : Heap} {K : V → Heap → Prop} (hv : Rd H 3 v (es.map enEdge)) (hn : 1 ≤ n ∧ n ≤ 10) (h : K (.bool (decide (0 ≤ x ∧ x < n))) H) : ACalls P n_i_Graph_isNode [vG n v, .int .i64 x] H K := by
  have hc := hv.cell
  apply W_i_Graph_isNode
  unfold F_i_Graph_isNode
  simp [hc]
  apply C_i_within
  rw [i64_in (n := n - 1) (by omega) (by omega)]
  exact Ret.iff h (by omega)
theorem C_i_compareEdges {a b : TEdge} {H : Heap} {K : V → Heap → Prop} (h : K (.int .i64 (if a.1 ≠ b.1 then IntKind.i64.wrap (a.1 - b.1) else IntKind.i64.wrap (a.2.1 - b.2.1))) H) :
    ACalls P n_i_compareEdges [.agg (enEdge a), .agg (enEdge b)] H K := by
  apply W_i_compareEdges
  unfold F_i_compareEdges
  simp
  refine ⟨fun h1 => Ret.eq h (by simp [h1]), fun h1 => Ret.eq h (by simp [h1])⟩

theorem graphOk_no {n : Int} {es : List TEdge} {i : Nat} (hi : i < es.length) (h : ¬ okAt n es i) : ¬ graphOk n es := by
  exact fun hg => h (hg.2.2 i hi)

def InvO (n : Int) (v : V) (es : List TEdge) (H : Heap) (m : Nat) (ys : List V) (Hc : Heap) : Prop :=
  ∃ i, i ≤ es.length ∧ ys = [.box [.int .i64 n, v], .int .i64 (i : Nat)] ∧ m = es.length - i ∧ Hc = H ∧ ∀ j, j < i → okAt n es j

set_option maxHeartbeats 1000000 in
theorem C_s_GraphOk {n : Int} {v : V} {es : List TEdge} {H : Heap} {K : V → Heap → Prop} (hv : Rd H 3 v (es.map enEdge)) (h : K (.bool (decide (graphOk n es))) H) : ACalls P n_s_GraphOk [vG n v] H K := by
  have hc := hv.cell
  apply W_s_GraphOk
  unfold F_s_GraphOk
  simp [hc]
  apply C_s_l01In
  simp
  refine ⟨fun h0 => Ret.no h fun hg => by have := hg.1; omega, fun h0 h1 => ?_⟩
  simp [hv.len]
  refine ⟨fun h2 => Ret.no h fun hg => by have := hg.2.1; omega, fun h2 => ?_⟩
  refine ⟨InvO n v es H, ⟨es.length, Shr.of ⟨0, by omega, by simp, by omega, rfl, fun j hj => absurd hj (by omega)⟩⟩, ?_⟩
  rintro m ys Hc ⟨i, hi, rfl, rfl, rfl, hok⟩
  simp [hv.len]
  refine ⟨fun hlt => ?_, fun hge => ?_⟩
  · refine hv.idx (by omega) (by simpa using hlt) fun p hp => ?_
    simp only [hp.ld]
    simp [hlt, stz_eq, putCells]
    have he := ed_get hlt
    refine C_s_l03Node hv (by omega) ?_
    simp
    refine ⟨fun q => Ret.no h (graphOk_no hlt fun ho => ?_), fun q1 q2 => ?_⟩
    · have := ho.1; rw [he] at this; omega
    refine C_s_l03Node hv (by omega) ?_
    simp
    refine ⟨fun q => Ret.no h (graphOk_no hlt fun ho => ?_), fun q3 q4 => ?_⟩
    · have := ho.2.1; rw [he] at this; omega
    refine ⟨fun q => Ret.no h (graphOk_no hlt fun ho => ?_), fun q5 => ?_⟩
    · have := ho.2.2.1; rw [he] at this; omega
    apply C_s_l01In
    simp
    refine ⟨fun q => Ret.no h (graphOk_no hlt fun ho => ?_), fun q6 q7 => ?_⟩
    · have := ho.2.2.2.1; rw [he] at this; omega
    rw [i64_in (n := (i : Int) + 1) (by omega) (by omega)]
    have next : (0 < i → ((ed es (i - 1)).1 < (ed es i).1 ∨ (ed es (i - 1)).1 = (ed es i).1 ∧ (ed es (i - 1)).2.1 < (ed es i).2.1)) → ∃ n11, n11 < es.length - i ∧ Shr (InvO n v es Hc n11 [.box [.int .i64 n, v], .int .i64 ((i : Int) + 1)]) Hc := fun hl =>
      ⟨es.length - (i + 1), by omega, Shr.of ⟨i + 1, by omega, by simp, rfl, rfl, fun j hj => by
        by_cases e : j = i
        · subst e
          refine ⟨?_, ?_, ?_, ?_, hl⟩ <;> rw [he] <;> omega
        · exact hok j (by omega)⟩⟩
    refine ⟨fun q8 => ?_, fun q8 => next fun hh => absurd hh (by omega)⟩
    have hlt' : i - 1 < es.length := by omega
    have he' := ed_get hlt'
    have e1 : ((i : Int) - 1).toNat = i - 1 := by omega
    rw [i64_in (n := (i : Int) - 1) (by omega) (by omega)]
    refine hv.idx (by omega) (by simp; omega) fun p' hp' => ?_
    simp only [hp'.ld, e1]
    simp [hlt', stz_eq, putCells]
    refine ⟨fun q => Ret.no h (graphOk_no hlt fun ho => ?_), fun q9 => ⟨fun q10 => ⟨fun q11 => Ret.no h (graphOk_no hlt fun ho => ?_), fun q11 => next fun _ => ?_⟩, fun q10 => next fun _ => ?_⟩⟩
    · have := ho.2.2.2.2 (by omega); rw [he, he'] at this; omega
    · have := ho.2.2.2.2 (by omega); rw [he, he'] at this; omega
    · rw [he, he']; omega
    · rw [he, he']; omega
  · have : i = es.length := by omega
    subst this
    exact Ret.yes h ⟨by omega, by omega, hok⟩

end Go.Proofs.YtaippfedjjjpeaaGreat
/-
Contracts: GraphOk of the program, costs, the laws' helpers over graphs.
-/
namespace Go.Proofs.YtaippfedjjjpeaaGreat
open Go Go.Abs Go.Proofs

set_option maxHeartbeats 1000000 in
theorem C_i_GraphOk {n : Int} {v : V} {es : List TEdge} {H : Heap} {K : V → Heap → Prop} (hv : Rd H 3 v (es.map enEdge)) (h : K (.bool (decide (graphOk n es))) H) : ACalls P n_i_GraphOk [vG n v] H K := by
  have hc := hv.cell
  apply W_i_GraphOk
  unfold F_i_GraphOk
  simp [hc]
  apply C_i_within
  simp
  refine ⟨fun h0 => Ret.no h fun hg => by have := hg.1; omega, fun h0 h1 => ?_⟩
  simp [hv.len]
  refine ⟨fun h2 => Ret.no h fun hg => by have := hg.2.1; omega, fun h2 => ?_⟩
  refine ⟨InvO n v es H, ⟨es.length, Shr.of ⟨0, by omega, by simp, by omega, rfl, fun j hj => absurd hj (by omega)⟩⟩, ?_⟩
  rintro m ys Hc ⟨i, hi, rfl, rfl, rfl, hok⟩
  simp
  refine ⟨fun hlt => ?_, fun hge => ?_⟩
  · refine hv.idx (by omega) (by simpa using hlt) fun p hp => ?_
    simp only [hp.ld]
    simp [hlt, stz_eq, putCells]
    refine ⟨_, Abs.sub_refl _, ?_⟩
    have he := ed_get hlt
    refine C_i_Graph_isNode hv (by omega) ?_
    simp
    refine ⟨fun q => Ret.no h (graphOk_no hlt fun ho => ?_), fun q1 q2 => ?_⟩
    · have := ho.1; rw [he] at this; omega
    refine C_i_Graph_isNode hv (by omega) ?_
    simp
    refine ⟨fun q => Ret.no h (graphOk_no hlt fun ho => ?_), fun q3 q4 => ?_⟩
    · have := ho.2.1; rw [he] at this; omega
    refine ⟨fun q => Ret.no h (graphOk_no hlt fun ho => ?_), fun q5 => ?_⟩
    · have := ho.2.2.1; rw [he] at this; omega
    apply C_i_within
    simp
    refine ⟨fun q => Ret.no h (graphOk_no hlt fun ho => ?_), fun q6 q7 => ?_⟩
    · have := ho.2.2.2.1; rw [he] at this; omega
    rw [i64_in (n := (i : Int) + 1) (by omega) (by omega)]
    have next : (0 < i → ((ed es (i - 1)).1 < (ed es i).1 ∨ (ed es (i - 1)).1 = (ed es i).1 ∧ (ed es (i - 1)).2.1 < (ed es i).2.1)) → ∃ n11, n11 < es.length - i ∧ Shr (InvO n v es Hc n11 [.box [.int .i64 n, v], .int .i64 ((i : Int) + 1)]) Hc := fun hl =>
      ⟨es.length - (i + 1), by omega, Shr.of ⟨i + 1, by omega, by simp, rfl, rfl, fun j hj => by
        by_cases e : j = i
        · subst e
          refine ⟨?_, ?_, ?_, ?_, hl⟩ <;> rw [he] <;> omega
        · exact hok j (by omega)⟩⟩
    refine ⟨fun q8 => ?_, fun q8 => next fun hh => absurd hh (by omega)⟩
    have hlt' : i - 1 < es.length := by omega
    have he' := ed_get hlt'
    have e1 : ((i : Int) - 1).toNat = i - 1 := by omega
    rw [i64_in (n := (i : Int) - 1) (by omega) (by omega)]
    refine hv.idx (by omega) (by simp; omega) fun p' hp' => ?_
    simp only [hp'.ld, e1]
    simp [hlt', stz_eq, putCells]
    have ok' := hok (i - 1) (by omega)
    rw [okAt, he'] at ok'
    apply C_i_compareEdges
    simp
    by_cases q9 : es[i - 1].1 = es[i].1
    · rw [if_pos q9, i64_in (by omega) (by omega)]
      refine ⟨fun q => Ret.no h (graphOk_no hlt fun ho => ?_), fun q => next fun _ => ?_⟩
      · have := ho.2.2.2.2 (by omega); rw [he, he'] at this; omega
      · rw [he, he']; omega
    · rw [if_neg q9, i64_in (by omega) (by omega)]
      refine ⟨fun q => Ret.no h (graphOk_no hlt fun ho => ?_), fun q => next fun _ => ?_⟩
      · have := ho.2.2.2.2 (by omega); rw [he, he'] at this; omega
      · rw [he, he']; omega
  · have : i = es.length := by omega
    subst this
    exact Ret.yes h ⟨by omega, by omega, hok⟩

def InvL (es : List TEdge) (a b : Int) (H : Heap) (m : Nat) (ys : List V) (Hc : Heap) : Prop :=
  ∃ i, i ≤ es.length ∧ ys = [.int .i64 (i : Nat)] ∧ m = es.length - i ∧ Hc = H ∧ ∀ j, j < i → ¬ ((ed es j).1 = a ∧ (ed es j).2.1 = b)

theorem cost_same {n : Int} {es : List TEdge} {a : Int} (h : 0 ≤ a ∧ a < n) : cost n es a a = 0 := by unfold cost; rw [if_pos ⟨rfl, h⟩]
theorem cost_look {n : Int} {es : List TEdge} {a b : Int} (h : a ≠ b) : cost n es a b = look es a b := by unfold cost; rw [if_neg fun hh => h hh.1]
theorem cost_out {n : Int} {es : List TEdge} {a b : Int} (hg : graphOk n es) (h : ¬ (0 ≤ a ∧ a < n) ∨ ¬ (0 ≤ b ∧ b < n)) : cost n es a b = 1000000 := by
  unfold cost
  by_cases e : a = b ∧ 0 ≤ a ∧ a < n
  · omega
  · rw [if_neg e]
    rcases look_cases hg a b with q | ⟨_, q⟩
    · exact q
    · omega

theorem C_s_l03Cost {n a b : Int} {v : V} {es : List TEdge} {H : Heap} {K : V → Heap → Prop} (hv : Rd H 3 v (es.map enEdge)) (hg : graphOk n es) (h : K (.int .i64 (cost n es a b)) H) : ACalls P n_s_l03Cost [vG n v, .int .i64 a, .int .i64 b] H K := by
  have hc := hv.cell
  have hn := hg.1
  have hl := hg.2.1
  apply W_s_l03Cost
  unfold F_s_l03Cost
  simp [hc]
  refine C_s_l03Node hv hn ?_
  simp
  refine ⟨fun q => Ret.eq h (by rw [cost_out hg (by omega)]), fun q1 q2 => ?_⟩
  refine C_s_l03Node hv hn ?_
  simp
  refine ⟨fun q => Ret.eq h (by rw [cost_out hg (by omega)]), fun q3 q4 => ?_⟩
  refine ⟨fun q => Ret.eq h (by rw [q, cost_same (by omega)]), fun q5 => ?_⟩
  rw [cost_look q5] at h
  refine ⟨InvL es a b H, ⟨es.length, Shr.of ⟨0, by omega, by simp, by omega, rfl, fun j hj => absurd hj (by omega)⟩⟩, ?_⟩
  rintro m ys Hc ⟨i, hi, rfl, rfl, rfl, hok⟩
  simp [hv.len]
  refine ⟨fun hlt => ?_, fun hge => ?_⟩
  · have he := ed_get hlt
    rw [i64_in (n := (i : Int) + 1) (by omega) (by omega)]
    have next : ¬ (es[i].1 = a ∧ es[i].2.1 = b) → ∃ n11, n11 < es.length - i ∧ Shr (InvL es a b Hc n11 [.int .i64 ((i : Int) + 1)]) Hc := fun hne =>
      ⟨es.length - (i + 1), by omega, Shr.of ⟨i + 1, by omega, by simp, rfl, rfl, fun j hj => by
        by_cases e : j = i
        · subst e; rw [he]; exact hne
        · exact hok j (by omega)⟩⟩
    refine hv.idx (by omega) (by simpa using hlt) fun p hp => ?_
    refine hp.fld fun p1 hp1 => ?_
    simp only [hp1.ld]
    simp [hlt]
    refine ⟨fun q => ?_, fun q => next fun hh => q hh.1⟩
    refine hv.idx (by omega) (by simpa using hlt) fun p hp => ?_
    refine hp.fld fun p1 hp1 => ?_
    simp only [hp1.ld]
    simp [hlt]
    refine ⟨fun q' => ?_, fun q' => next fun hh => q' hh.2⟩
    refine hv.idx (by omega) (by simpa using hlt) fun p hp => ?_
    refine hp.fld fun p1 hp1 => ?_
    simp only [hp1.ld]
    simp [hlt]
    refine Ret.eq h ?_
    rw [look_hit hlt (by rw [he]; exact q) (by rw [he]; exact q') hok, he]
  · have : i = es.length := by omega
    subst this
    exact Ret.eq h (by rw [look_none hok])

theorem C_i_Graph_cost {n a b : Int} {v : V} {es : List TEdge} {H : Heap} {K : V → Heap → Prop} (hv : Rd H 3 v (es.map enEdge)) (hg : graphOk n es) (h : K (.int .i64 (cost n es a b)) H) : ACalls P n_i_Graph_cost [vG n v, .int .i64 a, .int .i64 b] H K := by
  have hc := hv.cell
  have hn := hg.1
  have hl := hg.2.1
  have key : ¬ (a = b ∧ 0 ≤ a ∧ a < n) → ∀ (A B : Prop), True := fun _ _ _ => trivial
  apply W_i_Graph_cost
  unfold F_i_Graph_cost
  simp [hc, hv.len]
  refine ⟨fun q5 => ?_, fun q5 => ?_⟩
  · refine C_i_Graph_isNode hv hn ?_
    simp
    refine ⟨fun q1 q2 => Ret.eq h (by rw [← q5, cost_same (by omega)]), fun q6 => ?_⟩
    have hco : cost n es a b = look es a b := by unfold cost; rw [if_neg (by omega)]
    rw [hco] at h
    refine ⟨InvL es a b H, ⟨es.length, Shr.of ⟨0, by omega, by simp, by omega, rfl, fun j hj => absurd hj (by omega)⟩⟩, ?_⟩
    rintro m ys Hc ⟨i, hi, rfl, rfl, rfl, hok⟩
    simp
    refine ⟨fun hlt => ?_, fun hge => ?_⟩
    · have he := ed_get hlt
      rw [i64_in (n := (i : Int) + 1) (by omega) (by omega)]
      have next : ¬ (es[i].1 = a ∧ es[i].2.1 = b) → ∃ n11, n11 < es.length - i ∧ Shr (InvL es a b Hc n11 [.int .i64 ((i : Int) + 1)]) Hc := fun hne =>
        ⟨es.length - (i + 1), by omega, Shr.of ⟨i + 1, by omega, by simp, rfl, rfl, fun j hj => by
          by_cases e : j = i
          · subst e; rw [he]; exact hne
          · exact hok j (by omega)⟩⟩
      refine hv.idx (by omega) (by simpa using hlt) fun p hp => ?_
      simp only [hp.ld]
      simp [hlt, stz_eq, putCells]
      refine ⟨fun q => ⟨fun q' => ?_, fun q' => next fun hh => q' hh.2⟩, fun q => next fun hh => q hh.1⟩
      refine Ret.eq h ?_
      rw [look_hit hlt (by rw [he]; exact q) (by rw [he]; exact q') hok, he]
    · have : i = es.length := by omega
      subst this
      exact Ret.eq h (by rw [look_none hok])
  · have hco : cost n es a b = look es a b := cost_look q5
    rw [hco] at h
    refine ⟨InvL es a b H, ⟨es.length, Shr.of ⟨0, by omega, by simp, by omega, rfl, fun j hj => absurd hj (by omega)⟩⟩, ?_⟩
    rintro m ys Hc ⟨i, hi, rfl, rfl, rfl, hok⟩
    simp
    refine ⟨fun hlt => ?_, fun hge => ?_⟩
    · have he := ed_get hlt
      rw [i64_in (n := (i : Int) + 1) (by omega) (by omega)]
      have next : ¬ (es[i].1 = a ∧ es[i].2.1 = b) → ∃ n11, n11 < es.length - i ∧ Shr (InvL es a b Hc n11 [.int .i64 ((i : Int) + 1)]) Hc := fun hne =>
        ⟨es.length - (i + 1), by omega, Shr.of ⟨i + 1, by omega, by simp, rfl, rfl, fun j hj => by
          by_cases e : j = i
          · subst e; rw [he]; exact hne
          · exact hok j (by omega)⟩⟩
      refine hv.idx (by omega) (by simpa using hlt) fun p hp => ?_
      simp only [hp.ld]
      simp [hlt, stz_eq, putCells]
      refine ⟨fun q => ⟨fun q' => ?_, fun q' => next fun hh => q' hh.2⟩, fun q => next fun hh => q hh.1⟩
      refine Ret.eq h ?_
      rw [look_hit hlt (by rw [he]; exact q) (by rw [he]; exact q') hok, he]
    · have : i = es.length := by omega
      subst this
      exact Ret.eq h (by rw [look_none hok])

/-! #### the laws' helpers -/
end Go.Proofs.YtaippfedjjjpeaaGreat
/-
Contracts: distances.
-/
namespace Go.Proofs.YtaippfedjjjpeaaGreat
open Go Go.Abs Go.Proofs

theorem getD_ri {l : List Int} {i : Nat} (h : i < l.length) : (l.map ri).getD i [] = [.int .i64 (l.getD i 0)] := by simp [h]
theorem map_set_ri (l : List Int) (i : Nat) (x : Int) : (l.map ri).set i (ri x) = (l.set i x).map ri := by rw [List.map_set]

/-- A distance read off a row of them. -/
theorem dist_ld {n a b : Int} {es : List TEdge} {u : V} {H : Heap} {K : V → Prop} (hu : Rd H 1 u ((dist n es a).map ri)) (hg : graphOk n es) (hb : 0 ≤ b ∧ b < n) (h : K (.int .i64 (far n es a b))) :
    bnd (aIndex H 1 u (.int .i64 b)) fun t => bnd (aLd false 1 H t) K := by
  have hl : (dist n es a).length = n.toNat := (DOk.dist hg a).1
  refine hu.idx hb.1 (by simp; omega) fun p hp => ?_
  rw [hp.ld, getD_ri (by omega)]
  exact h

/-! #### the reference's -/
def InvRd (H : Heap) (n : Int) (m : Nat) (ys : List V) (Hc : Heap) : Prop :=
  ∃ (i : Nat) (u : V), (i : Int) ≤ n ∧ ys = [u, .int .i64 (i : Nat)] ∧ m = n.toNat - i ∧ Held H 1 ((List.replicate i (1000000 : Int)).map ri) u Hc
def InvKd (H : Heap) (n a : Int) (es : List TEdge) (v u : V) (m : Nat) (ys : List V) (Hc : Heap) : Prop :=
  ∃ k : Nat, (k : Int) ≤ n ∧ ys = [.box [.int .i64 n, v], .int .i64 (k : Nat)] ∧ m = n.toNat - k ∧ Held H 1 ((rounds es k (dist0 n a)).map ri) u Hc
def InvJd (H : Heap) (n a : Int) (es : List TEdge) (v u : V) (k : Nat) (m : Nat) (ys : List V) (Hc : Heap) : Prop :=
  ∃ j : Nat, j ≤ es.length ∧ ys = [.box [.int .i64 n, v], .int .i64 (j : Nat)] ∧ m = es.length - j ∧ Held H 1 ((part es j (rounds es k (dist0 n a))).map ri) u Hc

set_option maxHeartbeats 2000000 in
theorem C_s_Distances {n a : Int} {v : V} {es : List TEdge} {H : Heap} {K : V → Heap → Prop} (hv : Rd H 3 v (es.map enEdge)) (hg : graphOk n es) (ha : 0 ≤ a ∧ a < n) (h : ∀ u H', Held H 1 ((dist n es a).map ri) u H' → K u H') : ACalls P n_s_Distances [vG n v, .int .i64 a] H K := by
  have hc := hv.cell
  have hn := hg.1
  have hl := hg.2.1
  apply W_s_Distances
  unfold F_s_Distances
  simp [hc]
  refine C_s_GraphOk hv ?_
  simp [hg]
  refine C_s_l03Node hv hn ?_
  simp [ha, bsl_nil]
  intro o ho
  refine ⟨InvRd H n, ⟨n.toNat, Shr.of ⟨0, _, by omega, rfl, by omega, by simpa using Held.new ho⟩⟩, ?_⟩
  rintro m ys Hc ⟨i, u, hi, rfl, rfl, hu⟩
  simp
  refine ⟨fun hlt => ?_, fun hge => ?_⟩
  · simp [bsl_one]
    intro o2 ho2
    refine hu.append (sub_fresh ho2) (by simp) (by simp; omega) fun v' H' H'' ho' hs' => ?_
    rw [i64_in (by omega) (by omega)]
    refine ⟨n.toNat - (i + 1), by omega, H'', hs', i + 1, v', by omega, by simp, rfl, ?_⟩
    have e : List.map ri (List.replicate (i + 1) (1000000 : Int)) = List.map ri (List.replicate i (1000000 : Int)) ++ [[.int .i64 1000000]] := by
      rw [List.replicate_succ', List.map_append]; rfl
    rw [e]; exact ho'
  have e0 : i = n.toNat := by omega
  subst e0
  refine hu.pt (Abs.sub_refl _) ha.1 (by simp; omega) fun p hp => ?_
  refine hp.st (row' := ri 0) (by simp [stz_eq, putCells, show a.toNat < n.toNat by omega]) fun H1 H2 hu2 hs2 => ?_
  have e1 : (List.map ri (List.replicate n.toNat (1000000 : Int))).set a.toNat (ri 0) = (dist0 n a).map ri := by rw [map_set_ri]; rfl
  rw [e1] at hu2
  refine ⟨InvKd H n a es v u, ⟨n.toNat, H2, hs2, 0, by omega, by simp, by omega, hu2⟩, ?_⟩
  rintro m ys Hc2 ⟨k, hk, rfl, rfl, hu3⟩
  simp
  refine ⟨fun hlt => ?_, fun hge => ?_⟩
  · refine ⟨InvJd H n a es v u k, ⟨es.length, Shr.of ⟨0, by omega, by simp, by omega, by simpa [part] using hu3⟩⟩, ?_⟩
    rintro m ys Hc3 ⟨j, hj, rfl, rfl, hu4⟩
    have hvc := hv.mono hu4.sub
    simp [hvc.len]
    refine ⟨fun hlt2 => ?_, fun hge2 => ?_⟩
    · have he := ed_get hlt2
      have hok := hg.2.2 j hlt2
      rw [okAt, he] at hok
      obtain ⟨k1, k2, k3, k4, _⟩ := hok
      have dok := (DOk.zero (n := n) (a := a)).rounds hg k |>.part hg hj
      have next := part_succ (out := rounds es k (dist0 n a)) hlt2
      rw [he] at next
      generalize part es j (rounds es k (dist0 n a)) = out at *
      have d1 := dok.2 es[j].1.toNat (by omega)
      have d2 := dok.2 es[j].2.1.toNat (by omega)
      have dl := dok.1
      refine hvc.idx (by omega) (by simpa using hlt2) fun p hp => ?_
      simp only [hp.ld]
      simp [hlt2, stz_eq, putCells]
      refine ⟨_, Abs.sub_refl _, ?_⟩
      have r4 := hu4.rd ri_len
      rw [i64_in (n := (j : Int) + 1) (by omega) (by omega)]
      refine r4.idx k1.1 (by simp; omega) fun p hp => ?_
      rw [hp.ld, getD_ri (by omega)]
      simp
      refine ⟨fun q1 => ?_, fun q1 => ?_⟩
      · refine r4.idx k1.1 (by simp; omega) fun p hp => ?_
        rw [hp.ld, getD_ri (by omega)]
        simp
        refine r4.idx k2.1 (by simp; omega) fun p hp => ?_
        rw [hp.ld, getD_ri (by omega)]
        simp
        simp only [← List.getD_eq_getElem?_getD] at *
        rw [i64_in (n := out.getD es[j].1.toNat 0 + es[j].2.2) (by omega) (by omega)]
        refine ⟨fun q2 => ?_, fun q2 => ?_⟩
        · refine r4.idx k1.1 (by simp; omega) fun p hp => ?_
          rw [hp.ld, getD_ri (by omega)]
          simp
          simp only [← List.getD_eq_getElem?_getD] at *
          rw [i64_in (n := out.getD es[j].1.toNat 0 + es[j].2.2) (by omega) (by omega)]
          refine hu4.pt (Abs.sub_refl _) k2.1 (by simp; omega) fun p hp => ?_
          have hz : stz 1 ((List.map ri out).getD es[j].2.1.toNat []) 0 (.int .i64 (out.getD es[j].1.toNat 0 + es[j].2.2)) = some (ri (out.getD es[j].1.toNat 0 + es[j].2.2)) := by
            rw [getD_ri (by omega)]; simp [stz_eq, putCells]
          refine hp.st hz fun H5 H6 hu5 hs5 => ?_
          rw [map_set_ri] at hu5
          refine ⟨es.length - (j + 1), by omega, H6, hs5, j + 1, by omega, by simp, rfl, ?_⟩
          rw [next, relax, if_pos ⟨q1, q2⟩]
          exact hu5
        · refine ⟨es.length - (j + 1), by omega, Shr.of ⟨j + 1, by omega, by simp, rfl, ?_⟩⟩
          rw [next, relax, if_neg (by omega)]
          exact hu4
      · simp only [← List.getD_eq_getElem?_getD] at *
        refine ⟨es.length - (j + 1), by omega, Shr.of ⟨j + 1, by omega, by simp, rfl, ?_⟩⟩
        rw [next, relax, if_neg (by omega)]
        exact hu4
    · have : j = es.length := by omega
      subst this
      rw [i64_in (by omega) (by omega)]
      refine ⟨n.toNat - (k + 1), by omega, Shr.of ⟨k + 1, by omega, by simp, rfl, ?_⟩⟩
      rw [rounds, ← part_all]
      exact hu4
  · have : k = n.toNat := by omega
    subst this
    exact Ret.of (h _ _ hu3)

end Go.Proofs.YtaippfedjjjpeaaGreat
/-
Contracts: the program's distances.
-/
namespace Go.Proofs.YtaippfedjjjpeaaGreat
open Go Go.Abs Go.Proofs

theorem C_math_bits_Mul64 {n : Int} {H : Heap} {K : V → Heap → Prop} (hn : 0 ≤ n ∧ n ≤ 10) (h : K (.tup [.int .u64 0, .int .u64 n]) H) : ACalls P n_math_bits_Mul64 [.int .u64 1, .int .u64 n] H K := by
  apply W_math_bits_Mul64
  unfold F_math_bits_Mul64
  have : n = 0 ∨ n = 1 ∨ n = 2 ∨ n = 3 ∨ n = 4 ∨ n = 5 ∨ n = 6 ∨ n = 7 ∨ n = 8 ∨ n = 9 ∨ n = 10 := by omega
  rcases this with rfl | rfl | rfl | rfl | rfl | rfl | rfl | rfl | rfl | rfl | rfl <;> exact Ret.eq h rfl
theorem C_math_bits_Mul {n : Int} {H : Heap} {K : V → Heap → Prop} (hn : 0 ≤ n ∧ n ≤ 10) (h : K (.tup [.int .u64 0, .int .u64 n]) H) : ACalls P n_math_bits_Mul [.int .u64 1, .int .u64 n] H K := by
  apply W_math_bits_Mul
  unfold F_math_bits_Mul
  refine C_math_bits_Mul64 hn ?_
  exact Ret.eq h rfl

theorem rep_step {α : Type} (r z : α) {m n : Nat} (hm : m ≤ n) : (List.replicate m r ++ List.replicate (n - m) z).take m ++ (List.replicate m r).take (n - m) ++ (List.replicate m r ++ List.replicate (n - m) z).drop (m + min m (n - m)) =
    List.replicate (m + min m (n - m)) r ++ List.replicate (n - (m + min m (n - m))) z := by
  have e1 : (List.replicate m r ++ List.replicate (n - m) z).take m = List.replicate m r := by simp
  have e2 : (List.replicate m r ++ List.replicate (n - m) z).drop (m + min m (n - m)) = List.replicate (n - (m + min m (n - m))) z := by
    rw [List.drop_append]
    simp
    omega
  rw [e1, e2, List.take_replicate, List.replicate_append_replicate]
  congr 2
  omega

def InvRep (H : Heap) (o : Nat) (r : List V) (n : Nat) (k : Nat) (ys : List V) (Hc : Heap) : Prop :=
  ∃ m, 1 ≤ m ∧ m ≤ n ∧ ys = [.int .i64 (m : Nat)] ∧ k = n - m ∧ Hc = upd H o ⟨1, List.replicate m r ++ List.replicate (n - m) [.int .i64 0]⟩

set_option maxHeartbeats 1000000 in
theorem C_slices_Repeat {n : Int} {v : V} {r : List V} {H : Heap} {K : V → Heap → Prop} (hv : Rd H 1 v [r]) (hro : ∀ r, v ≠ .ro r) (hn : 1 ≤ n ∧ n ≤ 10) (h : ∀ u H', Held H 1 (List.replicate n.toNat r) u H' → K u H') : ACalls P n_slices_Repeat_int_int [v, .int .i64 n] H K := by
  obtain ⟨k, rfl⟩ : ∃ k : Nat, n = k := ⟨n.toNat, by omega⟩
  simp only [Int.toNat_natCast] at h
  apply W_slices_Repeat_int_int
  unfold F_slices_Repeat_int_int
  simp [hv.len]
  have e1 : IntKind.u64.wrap 1 = 1 := by decide
  have e2 : IntKind.u64.wrap (k : Int) = k := by
    have : k = 1 ∨ k = 2 ∨ k = 3 ∨ k = 4 ∨ k = 5 ∨ k = 6 ∨ k = 7 ∨ k = 8 ∨ k = 9 ∨ k = 10 := by omega
    rcases this with rfl | rfl | rfl | rfl | rfl | rfl | rfl | rfl | rfl | rfl <;> decide
  rw [e1, e2]
  refine C_math_bits_Mul (by omega) ?_
  simp
  rw [i64_in (by omega) (by omega)]
  simp
  refine ⟨by omega, fun _ => ⟨by omega, fun o ho => ?_⟩⟩
  rw [(hv.mono (sub_fresh ho)).rows hro]
  simp [copyK]
  have h1 : min 1 k = 1 := by omega
  have h2 : (List.replicate k [V.int .i64 0]).drop (min 1 k) = List.replicate (k - 1) [V.int .i64 0] := by rw [h1]; simp
  refine ⟨InvRep H o r k, ⟨k - 1, Shr.of ⟨1, by omega, by omega, by simp <;> omega, by omega, ?_⟩⟩, ?_⟩
  · have : List.take k [r] = [r] := List.take_of_length_le (by simp; omega)
    simp [this, h1]
  rintro m ys Hc ⟨m, hm1, hm2, rfl, rfl, rfl⟩
  simp
  refine ⟨fun hlt => ?_, fun hge => ?_⟩
  · simp [aSlice, bound, natOf]
    simp [hm2, rowsOf]
    have e3 : IntKind.i64.wrap ((m : Int) + min (m : Int) ((k - m : Nat) : Int)) = ((m + min m (k - m) : Nat) : Int) := by rw [i64_in (by omega) (by omega)]; omega
    refine ⟨k - (m + min m (k - m)), by omega, Shr.of ⟨m + min m (k - m), by omega, by omega, ?_, rfl, ?_⟩⟩
    · rw [e3]
    · rw [← rep_step r _ hm2]
      simp
      rw [← List.append_assoc, List.replicate_append_replicate]
  · have : m = k := by omega
    subst this
    refine Ret.of (h _ _ ?_)
    simp
    exact Held.full ho (by simp)

theorem min_relax {out : List Int} {e : TEdge} (h1 : out.getD e.1.toNat 0 < 1000000) : out.set e.2.1.toNat (min (out.getD e.2.1.toNat 0) (out.getD e.1.toNat 0 + e.2.2)) = relax out e := by
  unfold relax
  by_cases h : out.getD e.1.toNat 0 + e.2.2 < out.getD e.2.1.toNat 0
  · rw [if_pos ⟨h1, h⟩, show min (out.getD e.2.1.toNat 0) (out.getD e.1.toNat 0 + e.2.2) = out.getD e.1.toNat 0 + e.2.2 by omega]
  · rw [if_neg (fun hh => h hh.2), show min (out.getD e.2.1.toNat 0) (out.getD e.1.toNat 0 + e.2.2) = out.getD e.2.1.toNat 0 by omega]
    apply List.ext_getElem?
    intro j
    by_cases hj : e.2.1.toNat = j
    · subst hj
      by_cases hl : e.2.1.toNat < out.length
      · rw [List.getElem?_set_self hl]; simp [hl]
      · rw [List.getElem?_eq_none (by simp; omega), List.getElem?_eq_none (by omega)]
    · rw [List.getElem?_set_ne hj]

set_option maxHeartbeats 2000000 in
theorem C_i_Graph_distances {n a : Int} {v : V} {es : List TEdge} {H : Heap} {K : V → Heap → Prop} (hv : Rd H 3 v (es.map enEdge)) (hg : graphOk n es) (ha : 0 ≤ a ∧ a < n) (h : ∀ u H', Held H 1 ((dist n es a).map ri) u H' → K u H') : ACalls P n_i_Graph_distances [vG n v, .int .i64 a] H K := by
  have hc := hv.cell
  have hn := hg.1
  have hl := hg.2.1
  apply W_i_Graph_distances
  unfold F_i_Graph_distances
  simp [hc, bsl_one]
  intro o ho
  have h0 : Rd (upd H o ⟨1, [[.int .i64 1000000]]⟩) 1 (.slice o 0 1 (some 1)) [[.int .i64 1000000]] := Rd.own (rows := [[.int .i64 1000000]]) (by simp) (upd_eq _ _ _)
  refine C_slices_Repeat h0 (by simp) hn fun u H1 hu => ?_
  have hb : Abs.sub H (upd H o ⟨1, [[.int .i64 1000000]]⟩) := sub_fresh ho
  generalize upd H o ⟨1, [[.int .i64 1000000]]⟩ = Hb at *
  have hvb := hv.mono hb
  refine hu.pt (Abs.sub_refl _) ha.1 (by simp; omega) fun p hp => ?_
  refine hp.st (row' := ri 0) (by simp [stz_eq, putCells, show a.toNat < n.toNat by omega]) fun H2 H3 hu2 hs2 => ?_
  have e1 : (List.replicate n.toNat [V.int .i64 1000000]).set a.toNat (ri 0) = (dist0 n a).map ri := by
    have : List.replicate n.toNat [V.int .i64 1000000] = (List.replicate n.toNat (1000000 : Int)).map ri := by simp
    rw [this, map_set_ri]; rfl
  rw [e1] at hu2
  refine ⟨InvKd Hb n a es v u, ⟨n.toNat, H3, hs2, 0, by omega, by simp, by omega, hu2⟩, ?_⟩
  rintro m ys Hc2 ⟨k, hk, rfl, rfl, hu3⟩
  simp
  refine ⟨fun hlt => ?_, fun hge => ?_⟩
  · simp [hv.len]
    refine ⟨InvJd Hb n a es v u k, ⟨es.length, Shr.of ⟨0, by omega, by simp, by omega, by simpa [part] using hu3⟩⟩, ?_⟩
    rintro m ys Hc3 ⟨j, hj, rfl, rfl, hu4⟩
    have hvc := hvb.mono hu4.sub
    simp
    refine ⟨fun hlt2 => ?_, fun hge2 => ?_⟩
    · have he := ed_get hlt2
      have hok := hg.2.2 j hlt2
      rw [okAt, he] at hok
      obtain ⟨k1, k2, k3, k4, _⟩ := hok
      have dok := (DOk.zero (n := n) (a := a)).rounds hg k |>.part hg hj
      have next := part_succ (out := rounds es k (dist0 n a)) hlt2
      rw [he] at next
      generalize part es j (rounds es k (dist0 n a)) = out at *
      have d1 := dok.2 es[j].1.toNat (by omega)
      have d2 := dok.2 es[j].2.1.toNat (by omega)
      have dl := dok.1
      refine hvc.idx (by omega) (by simpa using hlt2) fun p hp => ?_
      simp only [hp.ld]
      simp [hlt2, stz_eq, putCells]
      have r4 := hu4.rd ri_len
      rw [i64_in (n := (j : Int) + 1) (by omega) (by omega)]
      refine r4.idx k1.1 (by simp; omega) fun p hp => ?_
      rw [hp.ld, getD_ri (by omega)]
      simp
      refine ⟨fun q1 => ?_, fun q1 => ?_⟩
      · refine r4.idx k2.1 (by simp; omega) fun p hp => ?_
        rw [hp.ld, getD_ri (by omega)]
        simp
        refine r4.idx k1.1 (by simp; omega) fun p hp => ?_
        rw [hp.ld, getD_ri (by omega)]
        simp [aMins_two]
        simp only [← List.getD_eq_getElem?_getD] at *
        rw [i64_in (n := out.getD es[j].1.toNat 0 + es[j].2.2) (by omega) (by omega)]
        refine hu4.pt (Abs.sub_refl _) k2.1 (by simp; omega) fun p hp => ?_
        have hz : stz 1 ((List.map ri out).getD es[j].2.1.toNat []) 0 (.int .i64 (min (out.getD es[j].2.1.toNat 0) (out.getD es[j].1.toNat 0 + es[j].2.2))) = some (ri (min (out.getD es[j].2.1.toNat 0) (out.getD es[j].1.toNat 0 + es[j].2.2))) := by
          rw [getD_ri (by omega)]; simp [stz_eq, putCells]
        refine hp.st hz fun H5 H6 hu5 hs5 => ?_
        rw [map_set_ri, min_relax q1] at hu5
        refine ⟨es.length - (j + 1), by omega, H6, hs5, j + 1, by omega, by simp, rfl, ?_⟩
        rw [next]
        exact hu5
      · simp only [← List.getD_eq_getElem?_getD] at *
        refine ⟨es.length - (j + 1), by omega, Shr.of ⟨j + 1, by omega, by simp, rfl, ?_⟩⟩
        rw [next, relax, if_neg (by omega)]
        exact hu4
    · have : j = es.length := by omega
      subst this
      rw [i64_in (by omega) (by omega)]
      refine ⟨n.toNat - (k + 1), by omega, Shr.of ⟨k + 1, by omega, by simp, rfl, ?_⟩⟩
      rw [rounds, ← part_all]
      exact hu4
  · have : k = n.toNat := by omega
    subst this
    exact Ret.held hu3 hb h

end Go.Proofs.YtaippfedjjjpeaaGreat
