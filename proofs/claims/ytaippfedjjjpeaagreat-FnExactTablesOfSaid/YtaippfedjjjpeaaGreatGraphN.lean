/-
Contracts: graphs whose edges go both ways, neighbors, loop-free ones.
-/
import Derived.Test.YtaippfedjjjpeaaGreatGraphG
set_option linter.all false
namespace Go.Proofs.YtaippfedjjjpeaaGreat
open Go Go.Abs Go.Proofs

def bothOk (n : Int) (es : List TEdge) : Prop := ∀ i, i < es.length → cost n es (ed es i).2.1 (ed es i).1 ≠ 1000000
def nodesOk (n : Int) (xs : List Int) : Prop := ∀ i, i < xs.length → 0 ≤ xs.getD i 0 ∧ xs.getD i 0 < n
instance (n : Int) (es : List TEdge) : Decidable (bothOk n es) := by unfold bothOk; infer_instance
instance (n : Int) (xs : List Int) : Decidable (nodesOk n xs) := by unfold nodesOk; infer_instance
def around (n : Int) (es : List TEdge) (xs : List Int) : Prop := graphOk n es ∧ bothOk n es ∧ nodesOk n xs
instance (n : Int) (es : List TEdge) (xs : List Int) : Decidable (around n es xs) := by unfold around; infer_instance
def near (n : Int) (es : List TEdge) (s t : Int) : Prop := s ≠ t ∧ cost n es s t < 1000000
instance (n : Int) (es : List TEdge) (s t : Int) : Decidable (near n es s t) := by unfold near; infer_instance
def lfree (n : Int) (es : List TEdge) (s t d : Int) : Prop := near n es s t ∧ s ≠ d ∧ far n es t d < 1000000 ∧ far n es t s < 1000000 ∧ far n es s d < 1000000 ∧ far n es t d < far n es t s + far n es s d
instance (n : Int) (es : List TEdge) (s t d : Int) : Decidable (lfree n es s t d) := by unfold lfree; infer_instance
theorem nodesOk_three {n a b c : Int} (h : nodesOk n [a, b, c]) : (0 ≤ a ∧ a < n) ∧ (0 ≤ b ∧ b < n) ∧ (0 ≤ c ∧ c < n) := ⟨by simpa using h 0 (by simp), by simpa using h 1 (by simp), by simpa using h 2 (by simp)⟩
theorem nodesOk_four {n a b c d : Int} (h : nodesOk n [a, b, c, d]) : (0 ≤ a ∧ a < n) ∧ (0 ≤ b ∧ b < n) ∧ (0 ≤ c ∧ c < n) ∧ (0 ≤ d ∧ d < n) := ⟨by simpa using h 0 (by simp), by simpa using h 1 (by simp), by simpa using h 2 (by simp), by simpa using h 3 (by simp)⟩

def InvG1 (n : Int) (es : List TEdge) (H : Heap) (m : Nat) (ys : List V) (Hc : Heap) : Prop :=
  ∃ i, i ≤ es.length ∧ ys = [.int .i64 (i : Nat)] ∧ m = es.length - i ∧ Hc = H ∧ ∀ j, j < i → cost n es (ed es j).2.1 (ed es j).1 ≠ 1000000
def InvG2 (n : Int) (xs : List Int) (H : Heap) (m : Nat) (ys : List V) (Hc : Heap) : Prop :=
  ∃ i, i ≤ xs.length ∧ ys = [.int .i64 (i : Nat)] ∧ m = xs.length - i ∧ Hc = H ∧ ∀ j, j < i → 0 ≤ xs.getD j 0 ∧ xs.getD j 0 < n

/-! #### the program's -/
def InvI (len : Nat) (q : Nat → Bool) (H : Heap) (m : Nat) (ys : List V) (Hc : Heap) : Prop :=
  ∃ i, i ≤ len ∧ ys = [.int .i64 (i : Nat)] ∧ m = len - i ∧ Hc = H ∧ ∀ j, j < i → q j = false
theorem C_ContainsFunc_Edge {v f : V} {es : List TEdge} {q : Nat → Bool} {H : Heap} {K : V → Heap → Prop} (hv : Rd H 3 v (es.map enEdge)) (hl : es.length ≤ 1000) (hf : ∀ i (hi : i < es.length) K', K' (.bool (q i)) H → callK P H f [.agg (enEdge es[i])] K')
    (h : K (.bool (decide (∃ i, i < es.length ∧ q i = true))) H) : ACalls P n_slices_ContainsFunc_i_Edge_i_Edge [v, f] H K := by
  apply W_slices_ContainsFunc_i_Edge_i_Edge
  unfold F_slices_ContainsFunc_i_Edge_i_Edge
  apply W_slices_IndexFunc_i_Edge_i_Edge
  unfold F_slices_IndexFunc_i_Edge_i_Edge
  simp [hv.len]
  refine ⟨InvI es.length q H, ⟨es.length, Shr.of ⟨0, by omega, by simp, by omega, rfl, fun j hj => absurd hj (by omega)⟩⟩, ?_⟩
  rintro m ys Hc ⟨i, hi, rfl, rfl, rfl, hok⟩
  simp
  refine ⟨fun hlt => ?_, fun hge => ?_⟩
  · refine hv.idx (by omega) (by simpa using hlt) fun p hp => ?_
    simp only [hp.ld]
    simp [hlt]
    refine hf i hlt _ ?_
    cases hq : q i
    · simp
      rw [i64_in (n := (i : Int) + 1) (by omega) (by omega)]
      exact ⟨es.length - (i + 1), by omega, Shr.of ⟨i + 1, by omega, by simp, rfl, rfl, fun j hj => by
        by_cases e : j = i
        · subst e; exact hq
        · exact hok j (by omega)⟩⟩
    · simp
      refine Ret.of ?_
      simp
      exact Ret.eq h (by simp; exact ⟨i, hlt, hq⟩)
  · have : i = es.length := by omega
    subst this
    refine Ret.of ?_
    simp
    exact Ret.eq h (by simp; exact fun j hj => by simp [hok j hj])
end Go.Proofs.YtaippfedjjjpeaaGreat
