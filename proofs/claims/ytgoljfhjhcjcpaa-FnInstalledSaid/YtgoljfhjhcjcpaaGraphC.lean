/-
Contracts: GraphOk of the program, costs, the laws' helpers over graphs.
-/
import Derived.Test.YtgoljfhjhcjcpaaGraphB
set_option linter.all false
namespace Go.Proofs.Ytgoljfhjhcjcpaa
open Go Go.Abs Go.Proofs

def InvL (es : List TEdge) (a b : Int) (H : Heap) (m : Nat) (ys : List V) (Hc : Heap) : Prop :=
  ∃ i, i ≤ es.length ∧ ys = [.int .i64 (i : Nat)] ∧ m = es.length - i ∧ Hc = H ∧ ∀ j, j < i → ¬ ((ed es j).1 = a ∧ (ed es j).2.1 = b)

theorem cost_same {n : Int} {es : List TEdge} {a : Int} (h : 0 ≤ a ∧ a < n) : cost n es a a = 0 := by unfold cost; rw [if_pos ⟨rfl, h⟩]
theorem cost_look {n : Int} {es : List TEdge} {a b : Int} (h : a ≠ b) : cost n es a b = look es a b := by unfold cost; rw [if_neg fun hh => h hh.1]
theorem cost_out {n : Int} {es : List TEdge} {a b : Int} (hg : graphOk n es) (h : ¬ (0 ≤ a ∧ a < n) ∨ ¬ (0 ≤ b ∧ b < n)) : cost n es a b = 1000000 := by
  unfold cost
  by_cases e : a = b ∧ 0 ≤ a ∧ a < n
  · omega
  · rw [if_neg e]
    rcases look_cases hg a b with q | ⟨_, q⟩
    · exact q
    · omega

/-! #### the laws' helpers -/
end Go.Proofs.Ytgoljfhjhcjcpaa
