/-
Contracts: GraphOk of the program, costs, the laws' helpers over graphs.
-/
import Derived.Test.YtcmpkkcbdmllpacGraphB
set_option linter.all false
namespace Go.Proofs.Ytcmpkkcbdmllpac
open Go Go.Abs Go.Proofs

def InvL (es : List TEdge) (a b : Int) (H : Heap) (m : Nat) (ys : List V) (Hc : Heap) : Prop :=
  ∃ i, i ≤ es.length ∧ ys = [.int .i64 (i : Nat)] ∧ m = es.length - i ∧ Hc = H ∧ ∀ j, j < i → ¬ ((ed es j).1 = a ∧ (ed es j).2.1 = b)

theorem cost_same {n : Int} {es : List TEdge} {a : Int} (h : 0 ≤ a ∧ a < n) : cost n es a a = 0 := by unfold cost; rw [if_pos ⟨rfl, h⟩]
theorem cost_look {n : Int} {es : List TEdge} {a b : Int} (h : a ≠ b) : cost n es a b = look es a b := by unfold cost; rw [if_neg fun hh => h hh.1]
theorem cost_out {n : Int} {es : List TEdge} {a b : Int} (hg : graphOk n es) (h : ¬ (0 ≤ a ∧ a < n) ∨ ¬ (0 ≤ b ∧ b < n)) : cost n es a b = 1000000 := by
  unfold cost
  by_cases e : a = b ∧ 0 ≤ a ∧ a < n
  · omega
  · rw [if_neg e]
    rcases look_cases hg a b with q | ⟨_, q⟩
    · exact q
    · omega

/-! #### the laws' helpers -/
theorem C_l_eqGraph {n m : Int} {v w : V} {es fs : List TEdge} {H : Heap} {K : V → Heap → Prop} (hv : Rd H 3 v (es.map enEdge)) (hw : Rd H 3 w (fs.map enEdge)) (hl : es.length ≤ 2097152) (h : K (.bool (decide (n = m ∧ es = fs))) H) : ACalls P n_l_eqGraph [vG n v, vG m w] H K := by
  have hc := hv.cell
  have hc' := hw.cell
  apply W_l_eqGraph
  unfold F_l_eqGraph
  simp [hc, hc']
  refine ⟨fun q => Ret.no h fun hh => q hh.1, fun q => ?_⟩
  refine C_l_eqEdgeS hv hw hl ?_
  simp
  exact ⟨fun q' => Ret.no h fun hh => q' hh.2, fun q' => Ret.yes h ⟨q, q'⟩⟩
theorem C_l_markGraph {n : Int} {v : V} {rows : List (List V)} {k : Int} {H0 Ho H : Heap} {K : V → Heap → Prop} (hv : Held H0 3 rows v Ho) (hs : Abs.sub Ho H) (hr : ∀ r ∈ rows, r.length = 3) (hk : 0 ≤ k) (hkn : k + 3 * rows.length ≤ 1000000000000)
    (h : ∀ H' Ho', Held H0 3 (mkEdge k rows.length) v Ho' → Abs.sub Ho' H' → K (.int .i64 (k + 3 * rows.length)) H') : ACalls P n_l_markGraph [vG n v, .int .i64 k] H K := by
  have hc := hv.cell
  apply W_l_markGraph
  unfold F_l_markGraph
  simp [hc]
  exact C_markEdgeHeld hv hs hr hk hkn fun H' Ho' h1 h2 => Ret.of (h _ _ h1 h2)

end Go.Proofs.Ytcmpkkcbdmllpac
