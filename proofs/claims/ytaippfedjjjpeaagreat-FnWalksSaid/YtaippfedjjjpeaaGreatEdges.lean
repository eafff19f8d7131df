/-
Contracts of the laws' helpers over slices of structs Edge.
-/
import Derived.Test.YtaippfedjjjpeaaGreatBase
import Derived.Test.YtaippfedjjjpeaaGreatAbs3
set_option linter.all false
namespace Go.Proofs.YtaippfedjjjpeaaGreat
open Go Go.Abs Go.Proofs

/-! #### Edge -/
abbrev TEdge : Type := Int × Int × Int
abbrev enEdge (e : TEdge) : List V := [.int .i64 e.1, .int .i64 e.2.1, .int .i64 e.2.2]
theorem enEdge_len {xs : List TEdge} : ∀ r ∈ xs.map enEdge, r.length = 3 := fun r hr => by obtain ⟨x, _, rfl⟩ := List.mem_map.1 hr; rfl
theorem enEdge_inj {a b : TEdge} : a = b ↔ (a.1 = b.1 ∧ a.2.1 = b.2.1 ∧ a.2.2 = b.2.2) := by
  constructor
  · rintro rfl; simp
  · intro h; obtain ⟨a0, a1, a2⟩ := a; obtain ⟨b0, b1, b2⟩ := b; simp_all
theorem Edges_of {e : TypeId} {x : V} (hf : flat P 8 e = some [.int .i64, .int .i64, .int .i64]) (c : CT P 8 (.slice e) x) : ∃ xs : List TEdge, x = .ro (xs.map enEdge) ∧ xs.length ≤ 9223372036854775807 := by
  obtain ⟨rows, rfl, hl, h⟩ := CT_slice hf c
  obtain ⟨xs, rfl⟩ := rows_map (f := enEdge) (rows := rows) fun row hr => by
    have c := h row hr
    obtain ⟨_, _, rfl, k0, c⟩ := CTs_cons c
    obtain ⟨_, _, rfl, k1, c⟩ := CTs_cons c
    obtain ⟨_, _, rfl, k2, c⟩ := CTs_cons c
    obtain rfl := CTs_nil c
    obtain ⟨m0, rfl, _⟩ := CT_int k0
    obtain ⟨m1, rfl, _⟩ := CT_int k1
    obtain ⟨m2, rfl, _⟩ := CT_int k2
    exact ⟨(m0, m1, m2), rfl⟩
  exact ⟨xs, rfl, by simp [maxLen] at hl; omega⟩
def mkEdge (k : Int) (n : Nat) : List (List V) := (List.range n).map fun i => enEdge (k + 3 * (i : Nat), k + 3 * (i : Nat) + 1, k + 3 * (i : Nat) + 1 + 1)
theorem mkEdge_len (k : Int) (n : Nat) : (mkEdge k n).length = n := by simp [mkEdge]
theorem mkEdge_row (k : Int) (n : Nat) : ∀ r ∈ mkEdge k n, r.length = 3 := fun r hr => by
  unfold mkEdge at hr
  obtain ⟨i, _, rfl⟩ := List.mem_map.1 hr
  rfl
theorem mkEdge_get {k : Int} {n i : Nat} (h : i < n) : (mkEdge k n)[i]? = some (enEdge (k + 3 * (i : Nat), k + 3 * (i : Nat) + 1, k + 3 * (i : Nat) + 1 + 1)) := by simp [mkEdge, h]
end Go.Proofs.YtaippfedjjjpeaaGreat

