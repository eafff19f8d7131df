/-
Contracts of the laws' small helpers.
-/
import Derived.Test.YtaippfedjjjpeaaInts
set_option linter.all false
namespace Go.Proofs.Ytaippfedjjjpeaa
open Go Go.Abs Go.Proofs

theorem C_l_big {v : V} {n : Nat} {H : Heap} {K : V → Heap → Prop} (hv : lenOf v = some n) (h : K (.bool (decide (1048576 < (n : Int)))) H) : ACalls P n_l_big [v] H K := by
  apply W_l_big
  unfold F_l_big
  simp [hv]
  exact Ret.eq h (by simp)

end Go.Proofs.Ytaippfedjjjpeaa
