/-
Contracts of the laws' helpers over slices of ints.
-/
import Derived.Test.YtaippfedjjjpeaaGreatBase
set_option linter.all false
namespace Go.Proofs.YtaippfedjjjpeaaGreat
open Go Go.Abs Go.Proofs

theorem ints_of {e : TypeId} {x : V} (hf : flat P 8 e = some [.int .i64]) (c : CT P 8 (.slice e) x) : ∃ xs : List Int, x = .ro (xs.map ri) ∧ xs.length ≤ 9223372036854775807 := by
  obtain ⟨rows, rfl, hl, h⟩ := CT_slice hf c
  obtain ⟨xs, rfl⟩ := rows_map (f := ri) (rows := rows) fun row hr => by
    obtain ⟨y, ys, rfl, k0, c⟩ := CTs_cons (h row hr)
    obtain rfl := CTs_nil c
    obtain ⟨n, rfl, _⟩ := CT_int k0
    exact ⟨n, rfl⟩
  exact ⟨xs, rfl, by simp [maxLen] at hl; omega⟩

end Go.Proofs.YtaippfedjjjpeaaGreat
