/-
Plain laws: agreement of nodes that reach each other.
-/
import Derived.Test.YtohicpepcjgnaaaGreatSumC
import Derived.Test.YtohicpepcjgnaaaGreatDist
set_option linter.all false
namespace Go.Proofs.YtohicpepcjgnaaaGreat
open Go Go.Abs Go.Proofs

theorem mem_lookA {es : List TEdge} {x y : Int} (h : look es x y ≠ 1000000) : (x, y, look es x y) ∈ es := by
  unfold look at h ⊢
  split
  · rename_i e he
    have hm := List.mem_of_find?_eq_some he
    have hp := List.find?_some he
    simp [isHit] at hp
    obtain ⟨p1, p2⟩ := hp
    rw [← p1, ← p2]
    exact hm
  · rename_i he
    rw [he] at h
    exact absurd rfl h
theorem pairs_back {n : Int} {es : List TEdge} (hg : graphOk n es) (h : pairsOk n es) : ∀ e ∈ es, (e.2.1, e.1, e.2.2) ∈ es := fun e he => by
  obtain ⟨i, hi, rfl⟩ := ed_mem he
  have := h i hi
  unfold pairOk at this
  obtain ⟨g1, g2, g3, g4, g5⟩ := hg.2.2 i hi
  rw [cost_look (fun q => g3 q.symm)] at this
  have hm := mem_lookA (es := es) (x := (ed es i).2.1) (y := (ed es i).1) (by omega)
  rw [this] at hm
  exact hm
def db (a : TNet) (x : Int) : List TLsa := a.dbs.getD x.toNat []
def same2 (a : TNet) (x y : Int) : Prop := far a.up.n a.up.es x y < 1000000 → dbSum (db a x) = dbSum (db a y) ∧ (db a x).length = (db a y).length
instance (a : TNet) (x y : Int) : Decidable (same2 a x y) := by unfold same2; infer_instance
def agreeR (a : TNet) : Prop := netOk a ∧ ∀ i, i < a.dbs.length → ∀ j, j < a.dbs.length → same2 a (i : Nat) (j : Nat)
instance (a : TNet) : Decidable (agreeR a) := by unfold agreeR; infer_instance
theorem same_refl (a : TNet) (x : Int) : same2 a x x := fun _ => ⟨rfl, rfl⟩
theorem same_symm {a : TNet} (h : netOk a) {x y : Int} (hx : 0 ≤ x ∧ x < a.up.n) (hy : 0 ≤ y ∧ y < a.up.n) (hs : same2 a x y) : same2 a y x := fun hf => by
  rw [← far_sym h.1 (pairs_back h.1 h.2.2.1) hx hy] at hf
  obtain ⟨h1, h2⟩ := hs hf
  exact ⟨h1.symm, h2.symm⟩
/-- It is enough to look at each pair once. -/
theorem agree_half {a : TNet} (h : netOk a) : agreeR a ↔ ∀ i, i < a.dbs.length → ∀ j, j < i → same2 a (i : Nat) (j : Nat) := by
  have hl := h.2.2.2.1
  constructor
  · exact fun hh i hi j hj => hh.2 i hi j (by omega)
  · intro hh
    refine ⟨h, fun i hi j hj => ?_⟩
    by_cases e : j < i
    · exact hh i hi j e
    · by_cases e2 : i = j
      · subst e2; exact same_refl a _
      · exact same_symm h (by omega) (by omega) (hh j hj i (by omega))
end Go.Proofs.YtohicpepcjgnaaaGreat
