/-
Plain terms: a graph without a link.
-/
import Derived.Test.YtipdfhjilegkcaaDist
import Derived.Test.YtipdfhjilegkcaaGraphR
import Derived.Test.YtipdfhjilegkcaaMixed
set_option linter.all false
namespace Go.Proofs.Ytipdfhjilegkcaa
open Go Go.Abs Go.Proofs

def el (a b : TEdge) : Prop := a.1 < b.1 ∨ a.1 = b.1 ∧ a.2.1 < b.2.1
theorem graph_iff {n : Int} {es : List TEdge} : graphOk n es ↔ (1 ≤ n ∧ n ≤ 10) ∧ es.length ≤ 60 ∧ (∀ e ∈ es, (0 ≤ e.1 ∧ e.1 < n) ∧ (0 ≤ e.2.1 ∧ e.2.1 < n) ∧ e.1 ≠ e.2.1 ∧ (1 ≤ e.2.2 ∧ e.2.2 ≤ 1000)) ∧ es.Pairwise el := by
  constructor
  · intro hg
    refine ⟨hg.1, hg.2.1, fun e he => edge_ok hg he, List.pairwise_iff_getElem.2 fun i j hi hj hij => ?_⟩
    have := lex_lt hg hij hj
    rw [ed_get hi, ed_get hj] at this
    exact this
  · rintro ⟨h1, h2, h3, h4⟩
    refine ⟨h1, h2, fun i hi => ?_⟩
    have he := ed_get hi
    obtain ⟨q1, q2, q3, q4⟩ := h3 _ (List.getElem_mem hi)
    refine ⟨by rw [he]; exact q1, by rw [he]; exact q2, by rw [he]; exact q3, by rw [he]; exact q4, fun h0 => ?_⟩
    have := List.pairwise_iff_getElem.1 h4 (i - 1) i (by omega) hi (by omega)
    rw [he, ed_get (by omega)]
    exact this
theorem graph_sub {n : Int} {es : List TEdge} (hg : graphOk n es) (p : TEdge → Bool) : graphOk n (es.filter p) := by
  rw [graph_iff] at hg ⊢
  obtain ⟨h1, h2, h3, h4⟩ := hg
  exact ⟨h1, Nat.le_trans (List.length_filter_le _ _) h2, fun e he => h3 e (List.mem_filter.1 he).1, h4.filter _⟩
theorem Way.sub {es fs : List TEdge} (hs : ∀ e ∈ fs, e ∈ es) {a b c : Int} (h : Way fs a b c) : Way es a b c := by
  induction h with
  | nil => exact .nil
  | snoc _ he hb ih => exact .snoc ih (hs _ he) hb
theorem Way.join {es : List TEdge} {a b c d x : Int} (h : Way es a b c) (h' : Way es b d x) : Way es a d (c + x) := by
  induction h' with
  | nil => rw [Int.add_zero]; exact h
  | snoc _ he hb ih => rw [← Int.add_assoc]; exact .snoc ih he hb
theorem Way.one {es : List TEdge} {e : TEdge} (he : e ∈ es) : Way es e.1 e.2.1 e.2.2 := by
  have := Way.snoc (Way.nil (es := es) (a := e.1)) he rfl
  rwa [Int.zero_add] at this
theorem way_split {es : List TEdge} {p : TEdge → Bool} {a b c : Int} (h : Way es a b c) : Way (es.filter p) a b c ∨ ∃ e c1 c2, e ∈ es ∧ p e = false ∧ Way es a e.1 c1 ∧ Way es e.2.1 b c2 ∧ c = c1 + e.2.2 + c2 := by
  induction h with
  | nil => exact .inl .nil
  | @snoc b c e h he hb ih =>
    rcases ih with ih | ⟨f, c1, c2, h1, h2, h3, h4, h5⟩
    · cases hp : p e with
      | true => exact .inl (.snoc ih (List.mem_filter.2 ⟨he, hp⟩) hb)
      | false => exact .inr ⟨e, c, 0, he, hp, by rw [hb]; exact h, .nil, by omega⟩
    · exact .inr ⟨f, c1, c2 + e.2.2, h1, h2, h3, .snoc h4 he hb, by omega⟩
def keepE (x y : Int) (e : TEdge) : Bool := decide (¬ (e.1 = x ∧ e.2.1 = y) ∧ ¬ (e.1 = y ∧ e.2.1 = x))
def wo (n : Int) (es : List TEdge) (x y : Int) : List TEdge := if graphOk n es then es.filter (keepE x y) else es
theorem wo_ok {n : Int} {es : List TEdge} (hg : graphOk n es) (x y : Int) : graphOk n (wo n es x y) := by
  rw [wo, if_pos hg]; exact graph_sub hg _
/-- A way that goes over neither edge is as cheap without them. -/
theorem far_wo {n : Int} {es : List TEdge} (hg : graphOk n es) {a b s f : Int} (ha : 0 ≤ a ∧ a < n) (hb : 0 ≤ b ∧ b < n) (hlt : far n es a b < 1000000) (hno : ¬ over n es a b s f) : far n (wo n es s f) a b = far n es a b := by
  have hg' := wo_ok hg s f
  have hw := far_way hg ha hb hlt
  have low : far n es a b ≤ far n (wo n es s f) a b := by
    by_cases h : far n (wo n es s f) a b < 1000000
    · have h1 := far_way hg' ha hb h
      rw [wo, if_pos hg] at h1 ⊢
      rw [wo, if_pos hg] at h
      exact far_le hg ha (h1.sub fun e he => (List.mem_filter.1 he).1)
    · omega
  have high : far n (wo n es s f) a b ≤ far n es a b := by
    rcases way_split (p := keepE s f) hw with h | ⟨e, c1, c2, h1, h2, h3, h4, h5⟩
    · refine far_le hg' ha ?_
      rw [wo, if_pos hg]; exact h
    · exfalso
      have ho := edge_ok hg h1
      have l1 := far_le hg ha h3
      have l2 := far_le hg ho.2.1 h4
      have n1 := h3.nonneg hg
      have n2 := h4.nonneg hg
      have w1 := far_way hg ha ho.1 (by omega)
      have w2 := far_way hg ho.2.1 hb (by omega)
      have l3 := far_le hg ha ((w1.join (Way.one h1)).join w2)
      have hk := look_edge hg h1
      have hc : cost n es e.1 e.2.1 = e.2.2 := by unfold cost; rw [if_neg (fun hh => ho.2.2.1 hh.1)]; exact hk
      apply hno
      have heq : far n es a e.1 + cost n es e.1 e.2.1 + far n es e.2.1 b = far n es a b := by rw [hc]; omega
      unfold keepE at h2
      simp only [decide_eq_false_iff_not] at h2
      unfold over overP
      by_cases q : e.1 = s ∧ e.2.1 = f
      · rw [q.1, q.2] at heq; exact .inl heq
      · have q' : e.1 = f ∧ e.2.1 = s := by
          apply Classical.byContradiction
          intro q'
          exact h2 ⟨q, q'⟩
        rw [q'.1, q'.2] at heq; exact .inr heq
  omega

end Go.Proofs.Ytipdfhjilegkcaa
