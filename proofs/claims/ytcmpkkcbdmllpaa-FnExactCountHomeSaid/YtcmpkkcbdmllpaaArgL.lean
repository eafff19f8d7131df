/-
Ints from without.
-/
import Derived.Test.YtcmpkkcbdmllpaaTabX
set_option linter.all false
namespace Go.Proofs.Ytcmpkkcbdmllpaa
open Go Go.Abs Go.Proofs

theorem int_of {x : List V} (c : CTs P 8 [.int .i64] x) : ∃ (n : Int), x = [.int .i64 n] := by
  obtain ⟨_, _, rfl, k0, c⟩ := CTs_cons c
  obtain rfl := CTs_nil c
  obtain ⟨n, rfl, _⟩ := CT_int k0
  exact ⟨n, rfl⟩

end Go.Proofs.Ytcmpkkcbdmllpaa
