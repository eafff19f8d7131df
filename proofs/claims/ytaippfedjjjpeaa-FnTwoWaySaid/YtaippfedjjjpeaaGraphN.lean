/-
Contracts: graphs whose edges go both ways, neighbors, loop-free ones.
-/
import Derived.Test.YtaippfedjjjpeaaGraphG
set_option linter.all false
namespace Go.Proofs.Ytaippfedjjjpeaa
open Go Go.Abs Go.Proofs

def bothOk (n : Int) (es : List TEdge) : Prop := ∀ i, i < es.length → cost n es (ed es i).2.1 (ed es i).1 ≠ 1000000
def nodesOk (n : Int) (xs : List Int) : Prop := ∀ i, i < xs.length → 0 ≤ xs.getD i 0 ∧ xs.getD i 0 < n
instance (n : Int) (es : List TEdge) : Decidable (bothOk n es) := by unfold bothOk; infer_instance
instance (n : Int) (xs : List Int) : Decidable (nodesOk n xs) := by unfold nodesOk; infer_instance
def around (n : Int) (es : List TEdge) (xs : List Int) : Prop := graphOk n es ∧ bothOk n es ∧ nodesOk n xs
instance (n : Int) (es : List TEdge) (xs : List Int) : Decidable (around n es xs) := by unfold around; infer_instance
def near (n : Int) (es : List TEdge) (s t : Int) : Prop := s ≠ t ∧ cost n es s t < 1000000
instance (n : Int) (es : List TEdge) (s t : Int) : Decidable (near n es s t) := by unfold near; infer_instance
def lfree (n : Int) (es : List TEdge) (s t d : Int) : Prop := near n es s t ∧ s ≠ d ∧ far n es t d < 1000000 ∧ far n es t s < 1000000 ∧ far n es s d < 1000000 ∧ far n es t d < far n es t s + far n es s d
instance (n : Int) (es : List TEdge) (s t d : Int) : Decidable (lfree n es s t d) := by unfold lfree; infer_instance
theorem nodesOk_three {n a b c : Int} (h : nodesOk n [a, b, c]) : (0 ≤ a ∧ a < n) ∧ (0 ≤ b ∧ b < n) ∧ (0 ≤ c ∧ c < n) := ⟨by simpa using h 0 (by simp), by simpa using h 1 (by simp), by simpa using h 2 (by simp)⟩
theorem nodesOk_four {n a b c d : Int} (h : nodesOk n [a, b, c, d]) : (0 ≤ a ∧ a < n) ∧ (0 ≤ b ∧ b < n) ∧ (0 ≤ c ∧ c < n) ∧ (0 ≤ d ∧ d < n) := ⟨by simpa using h 0 (by simp), by simpa using h 1 (by simp), by simpa using h 2 (by simp), by simpa using h 3 (by simp)⟩

def InvG1 (n : Int) (es : List TEdge) (H : Heap) (m : Nat) (ys : List V) (Hc : Heap) : Prop :=
  ∃ i, i ≤ es.length ∧ ys = [.int .i64 (i : Nat)] ∧ m = es.length - i ∧ Hc = H ∧ ∀ j, j < i → cost n es (ed es j).2.1 (ed es j).1 ≠ 1000000
def InvG2 (n : Int) (xs : List Int) (H : Heap) (m : Nat) (ys : List V) (Hc : Heap) : Prop :=
  ∃ i, i ≤ xs.length ∧ ys = [.int .i64 (i : Nat)] ∧ m = xs.length - i ∧ Hc = H ∧ ∀ j, j < i → 0 ≤ xs.getD j 0 ∧ xs.getD j 0 < n

/-! #### the program's -/
def InvI (len : Nat) (q : Nat → Bool) (H : Heap) (m : Nat) (ys : List V) (Hc : Heap) : Prop :=
  ∃ i, i ≤ len ∧ ys = [.int .i64 (i : Nat)] ∧ m = len - i ∧ Hc = H ∧ ∀ j, j < i → q j = false
end Go.Proofs.Ytaippfedjjjpeaa
