/-
Plain laws: what a new link makes of a net.
-/
import Derived.Test.YtohicpepcjgnaaaGreatEdgeP
set_option linter.all false
namespace Go.Proofs.YtohicpepcjgnaaaGreat
open Go Go.Abs Go.Proofs

def goodS (a : TNet) (p q c : Int) : Prop := netOk a ∧ (0 ≤ p ∧ p < a.up.n) ∧ (0 ≤ q ∧ q < a.up.n) ∧ p ≠ q ∧ (0 ≤ c ∧ c ≤ 1000) ∧ ¬ (c = 0 ∧ cost a.up.n a.up.es p q = 1000000)
instance (a : TNet) (p q c : Int) : Decidable (goodS a p q c) := by unfold goodS; infer_instance
def atN (a : TNet) (p q c : Int) : TNet := ⟨⟨a.up.n, linked p q c a.up.es⟩, a.dbs, a.wires, a.lost⟩
def telledN (a : TNet) (x y c : Int) : TNet := if 0 < c then tellN (tellN a x y) y x else a
def setN (a : TNet) (x y c : Int) : TNet := telledN (announceN (announceN (atN a x y c) x) y) x y c
def setOk (a : TNet) (x y c : Int) : Prop := lsaOk (ownL (atN a x y c) x) ∧ lsaOk (ownL (announceN (atN a x y c) x) y)
instance (a : TNet) (x y c : Int) : Decidable (setOk a x y c) := by unfold setOk; infer_instance
def setR (a : TNet) (p q c : Int) : TNet × Bool := if goodS a p q c ∧ setOk a (min p q) (max p q) c then (setN a (min p q) (max p q) c, true) else (a, false)
theorem netOk_at {a : TNet} {x y c : Int} (h : netOk a) (hx : 0 ≤ x ∧ x < a.up.n) (hy : 0 ≤ y ∧ y < a.up.n) (hne : x ≠ y) (hc : 0 ≤ c ∧ c ≤ 1000) : netOk (atN a x y c) := by
  obtain ⟨h1, h2, h3, h4⟩ := h
  obtain ⟨g1, g2⟩ := linked_ok h1 h2 h3 hx hy hne hc
  exact ⟨g1, h2, g2, h4⟩
theorem up_announce (a : TNet) (x : Int) : (announceN a x).up = a.up := (spreadL_fits ..).up
theorem good_mm {a : TNet} {p q c : Int} (h : goodS a p q c) : (0 ≤ min p q ∧ min p q < a.up.n) ∧ (0 ≤ max p q ∧ max p q < a.up.n) ∧ min p q ≠ max p q := by
  obtain ⟨_, h1, h2, h3, _⟩ := h
  omega
theorem small_telled {a : TNet} {x y c : Int} (h : Small a) : Small (telledN a x y c) := by
  unfold telledN
  split
  · exact small_tell (small_tell h)
  · exact h
theorem setR_sz {a : TNet} {p q c : Int} (h : bNet a) : bNet (setR a p q c).1 := by
  unfold setR
  split
  · rename_i hh
    obtain ⟨hg, hs⟩ := hh
    obtain ⟨m1, m2, m3⟩ := good_mm hg
    have h0 := netOk_at hg.1 m1 m2 m3 hg.2.2.2.2.1
    have h1 := netOk_announce h0 m1 hs.1
    have h2 := netOk_announce h1 (by rw [up_announce]; exact m2) hs.2
    exact small_sz (small_telled (small_of h2))
  · exact h
theorem cut_all {n x y : Int} {es : List TEdge} (hg : graphOk n es) (hp : pairsOk n es) (hne : x ≠ y) : ((dropE y x (dropE x y es)).length = es.length) ↔ cost n es x y = 1000000 := by
  rw [far_iff hg hne]
  rw [pairs_iff hg] at hp
  have e : dropE y x (dropE x y es) = es.filter fun e => !isKey x y e && !isKey y x e := by
    unfold dropE
    rw [List.filter_filter]
    congr 1
    funext f
    exact Bool.and_comm _ _
  rw [e, List.length_filter_eq_length_iff]
  unfold isKey
  constructor
  · intro h f hf q
    have := h f hf
    simp [q] at this
  · intro h f hf
    have h1 := h f hf
    have h2 : ¬ (f.1 = y ∧ f.2.1 = x) := fun q => h _ (hp f hf) ⟨q.2, q.1⟩
    simp [h1, h2]
theorem far_swap {n x y : Int} {es : List TEdge} (hg : graphOk n es) (hp : pairsOk n es) (hne : x ≠ y) : cost n es x y = 1000000 ↔ cost n es y x = 1000000 := by
  rw [far_iff hg hne, far_iff hg hne.symm]
  rw [pairs_iff hg] at hp
  exact ⟨fun h f hf q => h _ (hp f hf) ⟨q.2, q.1⟩, fun h f hf q => h _ (hp f hf) ⟨q.2, q.1⟩⟩
end Go.Proofs.YtohicpepcjgnaaaGreat
