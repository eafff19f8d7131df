/-
Plain laws: edges are put and left out; links of a net.
-/
import Derived.Test.YtohicpepcjgnaaaGreatAnnP
set_option linter.all false
namespace Go.Proofs.YtohicpepcjgnaaaGreat
open Go Go.Abs Go.Proofs

theorem elt_asymm {a b : TEdge} (h : elt a b) : ¬ elt b a := by unfold elt at *; omega
theorem elt_irrefl {a : TEdge} : ¬ elt a a := by unfold elt; omega
/-- Sorted lists with the same members are the same. -/
theorem elt_sorted_eq : ∀ {xs ys : List TEdge}, xs.Pairwise elt → ys.Pairwise elt → (∀ x, x ∈ xs ↔ x ∈ ys) → xs = ys
  | [], [], _, _, _ => rfl
  | [], y :: ys, _, _, h => absurd ((h y).2 (by simp)) (by simp)
  | x :: xs, [], _, _, h => absurd ((h x).1 (by simp)) (by simp)
  | x :: xs, y :: ys, hx, hy, h => by
    rw [List.pairwise_cons] at hx hy
    have e : x = y := by
      rcases List.mem_cons.1 ((h x).1 (by simp)) with q | q
      · exact q
      · rcases List.mem_cons.1 ((h y).2 (by simp)) with p | p
        · exact p.symm
        · exact absurd (hx.1 _ p) (elt_asymm (hy.1 _ q))
    subst e
    congr 1
    refine elt_sorted_eq hx.2 hy.2 fun z => ⟨fun hz => ?_, fun hz => ?_⟩
    · rcases List.mem_cons.1 ((h z).1 (List.mem_cons_of_mem _ hz)) with q | q
      · subst q; exact absurd (hx.1 _ hz) elt_irrefl
      · exact q
    · rcases List.mem_cons.1 ((h z).2 (List.mem_cons_of_mem _ hz)) with q | q
      · subst q; exact absurd (hy.1 _ hz) elt_irrefl
      · exact q
def isKey (x y : Int) (e : TEdge) : Bool := decide (e.1 = x ∧ e.2.1 = y)
def dropE (x y : Int) (es : List TEdge) : List TEdge := es.filter fun e => !isKey x y e
instance (a b : TEdge) : Decidable (elt a b) := by unfold elt; infer_instance
def lows (e : TEdge) (es : List TEdge) : List TEdge := es.filter fun f => decide (elt f e)
def highs (e : TEdge) (es : List TEdge) : List TEdge := es.filter fun f => decide (elt e f)
def putE (e : TEdge) (es : List TEdge) : List TEdge := lows e es ++ [e] ++ highs e es
theorem mem_drop {x y : Int} {es : List TEdge} {f : TEdge} : f ∈ dropE x y es ↔ f ∈ es ∧ ¬ (f.1 = x ∧ f.2.1 = y) := by
  unfold dropE isKey
  rw [List.mem_filter]
  by_cases q : f.1 = x ∧ f.2.1 = y <;> simp [q]
theorem mem_put {e f : TEdge} {es : List TEdge} : f ∈ putE e es ↔ f = e ∨ f ∈ es ∧ ¬ (f.1 = e.1 ∧ f.2.1 = e.2.1) := by
  unfold putE lows highs
  simp only [List.mem_append, List.mem_filter, List.mem_singleton, decide_eq_true_eq]
  unfold elt
  constructor
  · rintro ((⟨h, q⟩ | h) | ⟨h, q⟩)
    · exact .inr ⟨h, by omega⟩
    · exact .inl h
    · exact .inr ⟨h, by omega⟩
  · rintro (h | ⟨h, q⟩)
    · exact .inl (.inr h)
    · by_cases p : f.1 < e.1 ∨ f.1 = e.1 ∧ f.2.1 < e.2.1
      · exact .inl (.inl ⟨h, p⟩)
      · exact .inr ⟨h, by omega⟩
theorem pw_drop {x y : Int} {es : List TEdge} (h : es.Pairwise elt) : (dropE x y es).Pairwise elt := h.filter _
theorem pw_put {e : TEdge} {es : List TEdge} (h : es.Pairwise elt) : (putE e es).Pairwise elt := by
  unfold putE
  rw [List.append_assoc, List.pairwise_append]
  refine ⟨h.filter _, ?_, ?_⟩
  · rw [List.singleton_append, List.pairwise_cons]
    refine ⟨fun f hf => ?_, h.filter _⟩
    simpa [highs] using (List.mem_filter.1 hf).2
  · intro f hf g hg
    have h1 : elt f e := by simpa [lows] using (List.mem_filter.1 hf).2
    rcases List.mem_append.1 hg with hg | hg
    · rw [List.mem_singleton] at hg
      subst hg; exact h1
    · have h2 : elt e g := by simpa [highs] using (List.mem_filter.1 hg).2
      exact elt_trans h1 h2
theorem put_comm {e f : TEdge} {es : List TEdge} (h : es.Pairwise elt) (hne : ¬ (e.1 = f.1 ∧ e.2.1 = f.2.1)) : putE e (putE f es) = putE f (putE e es) := by
  refine elt_sorted_eq (pw_put (pw_put h)) (pw_put (pw_put h)) fun g => ?_
  rw [mem_put, mem_put, mem_put, mem_put]
  constructor
  · rintro (h | ⟨h | ⟨h, q⟩, p⟩)
    · subst h; exact .inr ⟨.inl rfl, hne⟩
    · exact .inl h
    · exact .inr ⟨.inr ⟨h, p⟩, q⟩
  · rintro (h | ⟨h | ⟨h, q⟩, p⟩)
    · subst h; exact .inr ⟨.inl rfl, fun q => hne ⟨q.1.symm, q.2.symm⟩⟩
    · exact .inl h
    · exact .inr ⟨.inr ⟨h, p⟩, q⟩
theorem put_drop {e : TEdge} {es : List TEdge} (h : es.Pairwise elt) : putE e (dropE e.1 e.2.1 es) = putE e es := by
  refine elt_sorted_eq (pw_put (pw_drop h)) (pw_put h) fun g => ?_
  rw [mem_put, mem_put, mem_drop]
  constructor
  · rintro (h | ⟨⟨h, _⟩, q⟩)
    · exact .inl h
    · exact .inr ⟨h, q⟩
  · rintro (h | ⟨h, q⟩)
    · exact .inl h
    · exact .inr ⟨⟨h, q⟩, q⟩
theorem drop_comm {x y : Int} {es : List TEdge} : dropE x y (dropE y x es) = dropE y x (dropE x y es) := by
  unfold dropE
  rw [List.filter_filter, List.filter_filter]
  congr 1
  funext f
  exact Bool.and_comm _ _
/-- The list of edges is short where there are few nodes. -/
theorem edges_few {es : List TEdge} (h : es.Pairwise elt) (he : ∀ e ∈ es, eOk 6 e) : es.length ≤ 60 := by
  rw [List.pairwise_iff_getElem] at h
  have key : ∀ i, (hi : i < es.length) → (i : Int) ≤ es[i].1 * 6 + es[i].2.1 := by
    intro i
    induction i with
    | zero =>
      intro hi
      obtain ⟨g1, g2, _⟩ := he _ (List.getElem_mem hi)
      omega
    | succ i ih =>
      intro hi
      have a := ih (by omega)
      have b := h i (i + 1) (by omega) hi (by omega)
      obtain ⟨g1, g2, _⟩ := he _ (List.getElem_mem hi)
      obtain ⟨k1, k2, _⟩ := he _ (List.getElem_mem (show i < es.length by omega))
      unfold elt at b
      omega
  by_cases hl : es.length ≤ 60
  · exact hl
  · exfalso
    have := key 40 (by omega)
    obtain ⟨g1, g2, _⟩ := he _ (List.getElem_mem (show 40 < es.length by omega))
    omega
theorem eOk_six {n : Int} {e : TEdge} (hn : n ≤ 6) (h : eOk n e) : eOk 6 e := by unfold eOk at *; omega
/-- The cost of an edge, by membership. -/
theorem look_mem' {es : List TEdge} (h : es.Pairwise elt) {e : TEdge} (he : e ∈ es) : look es e.1 e.2.1 = e.2.2 := by
  obtain ⟨i, hi, rfl⟩ := List.mem_iff_getElem.1 he
  rw [List.pairwise_iff_getElem] at h
  have := look_hit (es := es) (a := es[i].1) (b := es[i].2.1) hi (by rw [ed_get hi]) (by rw [ed_get hi]) fun j hj => by
    have := h j i (by omega) hi hj
    rw [ed_get (by omega)]
    unfold elt at this
    omega
  rw [this, ed_get hi]
theorem mem_look {n : Int} {es : List TEdge} (hg : graphOk n es) {x y : Int} (h : look es x y ≠ 1000000) : (x, y, look es x y) ∈ es := by
  unfold look at h ⊢
  split
  · rename_i e he
    have hm := List.mem_of_find?_eq_some he
    have hp := List.find?_some he
    simp [isHit] at hp
    obtain ⟨p1, p2⟩ := hp
    rw [← p1, ← p2]
    exact hm
  · rename_i he
    rw [he] at h
    exact absurd rfl h
theorem pairs_iff {n : Int} {es : List TEdge} (hg : graphOk n es) : pairsOk n es ↔ ∀ e ∈ es, (e.2.1, e.1, e.2.2) ∈ es := by
  have hg' := graph_iff.1 hg
  constructor
  · intro h e he
    obtain ⟨i, hi, rfl⟩ := ed_mem he
    have := h i hi
    unfold pairOk at this
    obtain ⟨g1, g2, g3, g4, g5⟩ := hg'.2.2.1 _ he
    rw [cost_look (fun q => g3 q.symm)] at this
    have hm := mem_look hg (x := (ed es i).2.1) (y := (ed es i).1) (by omega)
    rw [this] at hm
    exact hm
  · intro h i hi
    have he : ed es i ∈ es := by rw [ed_get hi]; exact List.getElem_mem hi
    obtain ⟨g1, g2, g3, g4⟩ := hg'.2.2.1 _ he
    unfold pairOk
    rw [cost_look (fun q => g3 q.symm)]
    exact look_mem' hg'.2.2.2 (h _ he)
theorem far_iff {n x y : Int} {es : List TEdge} (hg : graphOk n es) (hne : x ≠ y) : cost n es x y = 1000000 ↔ ∀ e ∈ es, ¬ (e.1 = x ∧ e.2.1 = y) := by
  rw [cost_look hne]
  constructor
  · rintro h e he ⟨rfl, rfl⟩
    rw [look_mem' (graph_iff.1 hg).2.2.2 he] at h
    have := (graph_iff.1 hg).2.2.1 e he
    unfold eOk at this
    omega
  · intro h
    by_cases q : look es x y = 1000000
    · exact q
    · exact absurd ⟨rfl, rfl⟩ (h _ (mem_look hg q))
/-- The links of the net after a change. -/
def linked (x y c : Int) (es : List TEdge) : List TEdge := if c = 0 then dropE y x (dropE x y es) else putE (y, x, c) (putE (x, y, c) es)
theorem linked_ok {n x y c : Int} {es : List TEdge} (hg : graphOk n es) (hn : n ≤ 6) (hp : pairsOk n es) (hx : 0 ≤ x ∧ x < n) (hy : 0 ≤ y ∧ y < n) (hne : x ≠ y) (hc : 0 ≤ c ∧ c ≤ 1000) : graphOk n (linked x y c es) ∧ pairsOk n (linked x y c es) := by
  have hg' := graph_iff.1 hg
  rw [pairs_iff hg] at hp
  have key : graphOk n (linked x y c es) := by
    have h3 : ∀ e ∈ linked x y c es, eOk n e := fun e he => by
      unfold linked at he
      split at he
      · rw [mem_drop, mem_drop] at he
        exact hg'.2.2.1 _ he.1.1
      · rw [mem_put, mem_put] at he
        rcases he with rfl | ⟨rfl | ⟨he, _⟩, _⟩
        · unfold eOk; simp only; omega
        · unfold eOk; simp only; omega
        · exact hg'.2.2.1 _ he
    have h4 : (linked x y c es).Pairwise elt := by
      unfold linked
      split
      · exact pw_drop (pw_drop hg'.2.2.2)
      · exact pw_put (pw_put hg'.2.2.2)
    exact graph_iff.2 ⟨hg'.1, edges_few h4 fun e he => eOk_six hn (h3 e he), h3, h4⟩
  refine ⟨key, ?_⟩
  rw [pairs_iff key]
  intro e he
  unfold linked at he ⊢
  split at he
  · rename_i h0
    rw [if_pos h0]
    rw [mem_drop, mem_drop] at he ⊢
    refine ⟨⟨hp _ he.1.1, fun q => he.2 ⟨q.2, q.1⟩⟩, fun q => he.1.2 ⟨q.2, q.1⟩⟩
  · rename_i h0
    rw [if_neg h0]
    rw [mem_put, mem_put] at he ⊢
    rcases he with rfl | ⟨rfl | ⟨he, q1⟩, q2⟩
    · exact .inr ⟨.inl rfl, fun q => hne q.1⟩
    · exact .inl rfl
    · exact .inr ⟨.inr ⟨hp _ he, fun q => q2 ⟨q.2, q.1⟩⟩, fun q => q1 ⟨q.2, q.1⟩⟩
theorem linked_comm {x y c : Int} {es : List TEdge} (h : es.Pairwise elt) (hne : x ≠ y) : linked x y c es = linked y x c es := by
  unfold linked
  split
  · exact drop_comm.symm
  · exact put_comm h fun q => hne q.1.symm
end Go.Proofs.YtohicpepcjgnaaaGreat
