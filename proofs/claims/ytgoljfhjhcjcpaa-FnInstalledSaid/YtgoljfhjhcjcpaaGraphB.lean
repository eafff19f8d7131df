/-
Contracts of the smallest functions over graphs.
-/
import Derived.Test.YtgoljfhjhcjcpaaGraphA
import Derived.Test.YtgoljfhjhcjcpaaInts
set_option linter.all false
namespace Go.Proofs.Ytgoljfhjhcjcpaa
open Go Go.Abs Go.Proofs

abbrev vG (n : Int) (v : V) : V := .agg [.int .i64 n, v]

theorem graphOk_no {n : Int} {es : List TEdge} {i : Nat} (hi : i < es.length) (h : ¬ okAt n es i) : ¬ graphOk n es := by
  exact fun hg => h (hg.2.2 i hi)

def InvO (n : Int) (v : V) (es : List TEdge) (H : Heap) (m : Nat) (ys : List V) (Hc : Heap) : Prop :=
  ∃ i, i ≤ es.length ∧ ys = [.box [.int .i64 n, v], .int .i64 (i : Nat)] ∧ m = es.length - i ∧ Hc = H ∧ ∀ j, j < i → okAt n es j

end Go.Proofs.Ytgoljfhjhcjcpaa
