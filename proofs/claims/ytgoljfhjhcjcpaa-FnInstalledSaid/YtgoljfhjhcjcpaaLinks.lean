/-
Contracts of the laws' helpers over slices of structs Link.
-/
import Derived.Test.YtgoljfhjhcjcpaaBase
import Derived.Test.YtgoljfhjhcjcpaaAbs3
set_option linter.all false
namespace Go.Proofs.Ytgoljfhjhcjcpaa
open Go Go.Abs Go.Proofs

/-! #### Link -/
abbrev TLink : Type := Int × Int
abbrev enLink (e : TLink) : List V := [.int .i64 e.1, .int .i64 e.2]
theorem enLink_len {xs : List TLink} : ∀ r ∈ xs.map enLink, r.length = 2 := fun r hr => by obtain ⟨x, _, rfl⟩ := List.mem_map.1 hr; rfl
theorem enLink_inj {a b : TLink} : a = b ↔ (a.1 = b.1 ∧ a.2 = b.2) := by
  constructor
  · rintro rfl; simp
  · intro h; obtain ⟨a0, a1⟩ := a; obtain ⟨b0, b1⟩ := b; simp_all
theorem Links_of {e : TypeId} {dn : Nat} {x : V} (hf : flat P 8 e = some [.int .i64, .int .i64]) (c : CT P (dn + 1) (.slice e) x) : ∃ xs : List TLink, x = .ro (xs.map enLink) ∧ xs.length ≤ 9223372036854775807 := by
  obtain ⟨rows, rfl, hl, h⟩ := CT_slice hf c
  obtain ⟨xs, rfl⟩ := rows_map (f := enLink) (rows := rows) fun row hr => by
    have c := h row hr
    obtain ⟨_, _, rfl, k0, c⟩ := CTs_cons c
    obtain ⟨_, _, rfl, k1, c⟩ := CTs_cons c
    obtain rfl := CTs_nil c
    obtain ⟨m0, rfl, _⟩ := CT_int k0
    obtain ⟨m1, rfl, _⟩ := CT_int k1
    exact ⟨(m0, m1), rfl⟩
  exact ⟨xs, rfl, by simp [maxLen] at hl; omega⟩
def mkLink (k : Int) (n : Nat) : List (List V) := (List.range n).map fun i => enLink (k + 2 * (i : Nat), k + 2 * (i : Nat) + 1)
theorem mkLink_len (k : Int) (n : Nat) : (mkLink k n).length = n := by simp [mkLink]
theorem mkLink_row (k : Int) (n : Nat) : ∀ r ∈ mkLink k n, r.length = 2 := fun r hr => by
  unfold mkLink at hr
  obtain ⟨i, _, rfl⟩ := List.mem_map.1 hr
  rfl
theorem mkLink_get {k : Int} {n i : Nat} (h : i < n) : (mkLink k n)[i]? = some (enLink (k + 2 * (i : Nat), k + 2 * (i : Nat) + 1)) := by simp [mkLink, h]
end Go.Proofs.Ytgoljfhjhcjcpaa

