/-
Contracts of the laws' helpers over advertisements and databases.
-/
import Derived.Test.YtgoljfhjhcjcpaaLinks
import Derived.Test.YtgoljfhjhcjcpaaStubs
import Derived.Test.YtgoljfhjhcjcpaaAbs3
set_option linter.all false
namespace Go.Proofs.Ytgoljfhjhcjcpaa
open Go Go.Abs Go.Proofs

structure TLsa where
  origin : Int
  seq : Int
  age : Int
  links : List TLink
  stubs : List TStub
theorem TLsa.eq_iff {a b : TLsa} : a = b ↔ a.origin = b.origin ∧ a.seq = b.seq ∧ a.age = b.age ∧ a.links = b.links ∧ a.stubs = b.stubs := by
  constructor
  · rintro rfl; simp
  · intro h; cases a; cases b; simp_all
instance : DecidableEq TLsa := fun a b => decidable_of_iff (a.origin = b.origin ∧ a.seq = b.seq ∧ a.age = b.age ∧ a.links = b.links ∧ a.stubs = b.stubs) TLsa.eq_iff.symm
abbrev lsaRow (a : TLsa) (l s : V) : List V := [.int .i64 a.origin, .int .i64 a.seq, .int .i64 a.age, l, s]
def lsaT (b : Bool) : Ty TLsa where
  n := 5
  rd H a vs := ∃ l s, vs = lsaRow a l s ∧ Rb b H 2 l (a.links.map enLink) ∧ Rb b H 3 s (a.stubs.map enStub)
  own a vs es := ∃ l s, vs = lsaRow a l s ∧ es = [⟨2, a.links.map enLink, l⟩, ⟨3, a.stubs.map enStub, s⟩]
  len := by rintro H a vs ⟨l, s, rfl, _⟩; rfl
  mono := by rintro H H' a vs ⟨l, s, rfl, h1, h2⟩ hs; exact ⟨l, s, rfl, h1.mono hs, h2.mono hs⟩
  ok := by
    rintro a vs es ⟨l, s, rfl, rfl⟩ e he r hr
    simp at he
    rcases he with rfl | rfl
    · exact enLink_len r hr
    · exact enStub_len r hr
  ofOwn := by
    rintro H a vs es ⟨l, s, rfl, rfl⟩ h
    exact ⟨l, s, rfl, (h ⟨2, a.links.map enLink, l⟩ (by simp)).any b, (h ⟨3, a.stubs.map enStub, s⟩ (by simp)).any b⟩
theorem Dp.lsa {b : Bool} {a : TLsa} {l s : V} {H0 H1 H2 : Heap} (h1 : Held H0 2 (a.links.map enLink) l H1) (h2 : Held H1 3 (a.stubs.map enStub) s H2) : Dp (lsaT b) H0 a (lsaRow a l s) H2 :=
  ⟨_, ⟨l, s, rfl, rfl⟩, H1, h1, H2, h2, rfl⟩
theorem lsa_dp {b : Bool} {a : TLsa} {vs : List V} {H0 H2 : Heap} (h : Dp (lsaT b) H0 a vs H2) : ∃ l s H1, vs = lsaRow a l s ∧ Held H0 2 (a.links.map enLink) l H1 ∧ Held H1 3 (a.stubs.map enStub) s H2 := by
  obtain ⟨es, ⟨l, s, rfl, rfl⟩, H1, h1, H2', h2, h3⟩ := h
  cases h3
  exact ⟨l, s, H1, rfl, h1, h2⟩
abbrev dbT (b : Bool) : Ty (List TLsa) := sliceT b (lsaT b)
theorem lsa_cell {b : Bool} {H : Heap} {a : TLsa} {l s : V} (h1 : Rb b H 2 l (a.links.map enLink)) (h2 : Rb b H 3 s (a.stubs.map enStub)) : (cellsOf l = [l] ∧ cellOk l = true ∧ notAny l = true) ∧ (cellsOf s = [s] ∧ cellOk s = true ∧ notAny s = true) := ⟨h1.1.cell, h2.1.cell⟩

def szl (a : TLsa) : Nat := a.links.length + a.stubs.length
end Go.Proofs.Ytgoljfhjhcjcpaa
