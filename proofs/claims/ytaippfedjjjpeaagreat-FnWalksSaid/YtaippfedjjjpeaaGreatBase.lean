/-
Contracts of the smallest helpers.
-/
import Derived.Test.YtaippfedjjjpeaaGreatW1
import Derived.Test.YtaippfedjjjpeaaGreatAbs3
set_option linter.all false
namespace Go.Proofs.YtaippfedjjjpeaaGreat
open Go Go.Abs Go.Proofs

theorem C_s_l01In {n lo hi : Int} {H : Heap} {K : V → Heap → Prop} (h : K (.bool (decide (lo ≤ n ∧ n ≤ hi))) H) : ACalls P n_s_l01In [.int .i64 n, .int .i64 lo, .int .i64 hi] H K := by
  apply W_s_l01In
  unfold F_s_l01In
  simp
  refine ⟨fun h1 => Ret.eq h ?_, fun h1 => Ret.eq h ?_⟩ <;> simp <;> omega

theorem C_i_within {n lo hi : Int} {H : Heap} {K : V → Heap → Prop} (h : K (.bool (decide (lo ≤ n ∧ n ≤ hi))) H) : ACalls P n_i_within [.int .i64 n, .int .i64 lo, .int .i64 hi] H K := by
  apply W_i_within
  unfold F_i_within
  simp
  refine ⟨fun h1 => Ret.eq h ?_, fun h1 => Ret.eq h ?_⟩ <;> simp <;> omega

end Go.Proofs.YtaippfedjjjpeaaGreat
