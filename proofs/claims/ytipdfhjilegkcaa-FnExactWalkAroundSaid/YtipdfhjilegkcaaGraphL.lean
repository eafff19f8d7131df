/-
Arguments from without: graphs and ints.
-/
import Derived.Test.YtipdfhjilegkcaaGraphC
set_option linter.all false
namespace Go.Proofs.Ytipdfhjilegkcaa
open Go Go.Abs Go.Proofs

theorem graph_of {e : TypeId} {x : List V} (hf : flat P 8 e = some [.int .i64, .int .i64, .int .i64]) (c : CTs P 8 [.int .i64, .slice e] x) : ∃ (n : Int) (es : List TEdge), x = [.int .i64 n, .ro (es.map enEdge)] ∧ es.length ≤ 9223372036854775807 := by
  obtain ⟨_, _, rfl, k0, c⟩ := CTs_cons c
  obtain ⟨_, _, rfl, k1, c⟩ := CTs_cons c
  obtain rfl := CTs_nil c
  obtain ⟨n, rfl, _⟩ := CT_int k0
  obtain ⟨es, rfl, hl⟩ := Edges_of hf k1
  exact ⟨n, es, rfl, hl⟩
theorem int_of {x : List V} (c : CTs P 8 [.int .i64] x) : ∃ (n : Int), x = [.int .i64 n] := by
  obtain ⟨_, _, rfl, k0, c⟩ := CTs_cons c
  obtain rfl := CTs_nil c
  obtain ⟨n, rfl, _⟩ := CT_int k0
  exact ⟨n, rfl⟩
theorem intS_of {e : TypeId} {x : List V} (hf : flat P 8 e = some [.int .i64]) (c : CTs P 8 [.slice e] x) : ∃ (ws : List Int), x = [.ro (ws.map ri)] ∧ ws.length ≤ 9223372036854775807 := by
  obtain ⟨_, _, rfl, k0, c⟩ := CTs_cons c
  obtain rfl := CTs_nil c
  obtain ⟨ws, rfl, hl⟩ := ints_of hf k0
  exact ⟨ws, rfl, hl⟩

end Go.Proofs.Ytipdfhjilegkcaa
