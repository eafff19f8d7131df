/-
Contracts of the laws' helpers over slices of structs Route.
-/
import Derived.Test.YtaippfedjjjpeaaBase
import Derived.Test.YtaippfedjjjpeaaAbs3
set_option linter.all false
namespace Go.Proofs.Ytaippfedjjjpeaa
open Go Go.Abs Go.Proofs

/-! #### Route -/
abbrev TRoute : Type := Int × Int × Int
abbrev enRoute (e : TRoute) : List V := [.int .i64 e.1, .int .i64 e.2.1, .int .i64 e.2.2]
theorem enRoute_len {xs : List TRoute} : ∀ r ∈ xs.map enRoute, r.length = 3 := fun r hr => by obtain ⟨x, _, rfl⟩ := List.mem_map.1 hr; rfl
theorem enRoute_inj {a b : TRoute} : a = b ↔ (a.1 = b.1 ∧ a.2.1 = b.2.1 ∧ a.2.2 = b.2.2) := by
  constructor
  · rintro rfl; simp
  · intro h; obtain ⟨a0, a1, a2⟩ := a; obtain ⟨b0, b1, b2⟩ := b; simp_all
theorem Routes_of {e : TypeId} {dn : Nat} {x : V} (hf : flat P 8 e = some [.int .i64, .int .i64, .int .i64]) (c : CT P (dn + 1) (.slice e) x) : ∃ xs : List TRoute, x = .ro (xs.map enRoute) ∧ xs.length ≤ 9223372036854775807 := by
  obtain ⟨rows, rfl, hl, h⟩ := CT_slice hf c
  obtain ⟨xs, rfl⟩ := rows_map (f := enRoute) (rows := rows) fun row hr => by
    have c := h row hr
    obtain ⟨_, _, rfl, k0, c⟩ := CTs_cons c
    obtain ⟨_, _, rfl, k1, c⟩ := CTs_cons c
    obtain ⟨_, _, rfl, k2, c⟩ := CTs_cons c
    obtain rfl := CTs_nil c
    obtain ⟨m0, rfl, _⟩ := CT_int k0
    obtain ⟨m1, rfl, _⟩ := CT_int k1
    obtain ⟨m2, rfl, _⟩ := CT_int k2
    exact ⟨(m0, m1, m2), rfl⟩
  exact ⟨xs, rfl, by simp [maxLen] at hl; omega⟩
def mkRoute (k : Int) (n : Nat) : List (List V) := (List.range n).map fun i => enRoute (k + 3 * (i : Nat), k + 3 * (i : Nat) + 1, k + 3 * (i : Nat) + 1 + 1)
theorem mkRoute_len (k : Int) (n : Nat) : (mkRoute k n).length = n := by simp [mkRoute]
theorem mkRoute_row (k : Int) (n : Nat) : ∀ r ∈ mkRoute k n, r.length = 3 := fun r hr => by
  unfold mkRoute at hr
  obtain ⟨i, _, rfl⟩ := List.mem_map.1 hr
  rfl
theorem mkRoute_get {k : Int} {n i : Nat} (h : i < n) : (mkRoute k n)[i]? = some (enRoute (k + 3 * (i : Nat), k + 3 * (i : Nat) + 1, k + 3 * (i : Nat) + 1 + 1)) := by simp [mkRoute, h]
end Go.Proofs.Ytaippfedjjjpeaa

