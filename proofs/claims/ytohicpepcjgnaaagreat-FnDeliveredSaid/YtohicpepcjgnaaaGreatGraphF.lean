/-
Contracts: the graph of a database.
-/
import Derived.Test.YtohicpepcjgnaaaGreatGraphC
import Derived.Test.YtohicpepcjgnaaaGreatLsM
import Derived.Test.YtohicpepcjgnaaaGreatKindA
set_option linter.all false
namespace Go.Proofs.YtohicpepcjgnaaaGreat
open Go Go.Abs Go.Proofs

structure TGraph where
  n : Int
  es : List TEdge
theorem TGraph.eq_iff {a b : TGraph} : a = b ↔ a.n = b.n ∧ a.es = b.es := by
  constructor
  · rintro rfl; simp
  · intro h; cases a; cases b; simp_all
instance : DecidableEq TGraph := fun a b => decidable_of_iff (a.n = b.n ∧ a.es = b.es) TGraph.eq_iff.symm
def graphT (b : Bool) : Ty TGraph where
  n := 2
  rd H a vs := ∃ w, vs = [.int .i64 a.n, w] ∧ Rb b H 3 w (a.es.map enEdge)
  own a vs es := ∃ w, vs = [.int .i64 a.n, w] ∧ es = [⟨3, a.es.map enEdge, w⟩]
  len := by rintro H a vs ⟨w, rfl, _⟩; rfl
  mono := by rintro H H' a vs ⟨w, rfl, h1⟩ hs; exact ⟨w, rfl, h1.mono hs⟩
  ok := by
    rintro a vs es ⟨w, rfl, rfl⟩ e he r hr
    simp at he
    subst he
    exact enEdge_len r hr
  ofOwn := by
    rintro H a vs es ⟨w, rfl, rfl⟩ h
    exact ⟨w, rfl, (h ⟨3, a.es.map enEdge, w⟩ (by simp)).any b⟩
theorem Dp.graph {b : Bool} {a : TGraph} {w : V} {H0 H1 : Heap} (h : Held H0 3 (a.es.map enEdge) w H1) : Dp (graphT b) H0 a [.int .i64 a.n, w] H1 := ⟨_, ⟨w, rfl, rfl⟩, H1, h, rfl⟩
theorem graph_dp {b : Bool} {a : TGraph} {vs : List V} {H0 H1 : Heap} (h : Dp (graphT b) H0 a vs H1) : ∃ w, vs = [.int .i64 a.n, w] ∧ Held H0 3 (a.es.map enEdge) w H1 := by
  obtain ⟨es, ⟨w, rfl, rfl⟩, H1', h1, h2⟩ := h
  cases h2
  exact ⟨w, rfl, h1⟩
theorem graph_dp' {b : Bool} {a : TGraph} {n : Int} {w : V} {H0 H1 : Heap} (h : Dp (graphT b) H0 a [.int .i64 n, w] H1) : n = a.n ∧ Held H0 3 (a.es.map enEdge) w H1 := by
  obtain ⟨w', e, h1⟩ := graph_dp h
  simp at e
  rw [e.2]
  exact ⟨e.1, h1⟩

def bGraph (a : TGraph) : Prop := a.es.length ≤ 1048576
theorem sB_Graph {a : TGraph} (h : bGraph a) : 3 * a.es.length ≤ 10000000 := by unfold bGraph at h; omega
def mkE (k : Int) (n : Nat) : List TEdge := (List.range n).map fun i => (k + 3 * (i : Nat), k + 3 * (i : Nat) + 1, k + 3 * (i : Nat) + 1 + 1)
theorem mkE_eq (k : Int) (n : Nat) : mkEdge k n = (mkE k n).map enEdge := by unfold mkEdge mkE; rw [List.map_map]; rfl
@[simp] theorem mkE_len (k : Int) (n : Nat) : (mkE k n).length = n := by simp [mkE]
/-! #### does an origin say that it has a link -/
def lto (ls : List TLink) (i : Nat) : Int := (lk ls i).1
theorem lto_get {ls : List TLink} {i : Nat} (h : i < ls.length) : lto ls i = ls[i].1 := by unfold lto; rw [lk_get h]
def hasTo (ls : List TLink) (t : Int) : Bool := decide (∃ i, i < ls.length ∧ decide (lto ls i = t) = true)
def says (xs : List TLsa) (o t : Int) : Bool := (findR xs o).2 && hasTo (findR xs o).1.links t
def InvIx (len : Nat) (q : Nat → Bool) (H : Heap) (m : Nat) (ys : List V) (Hc : Heap) : Prop :=
  ∃ i, i ≤ len ∧ ys = [.int .i64 (i : Nat)] ∧ m = len - i ∧ Hc = H ∧ ∀ j, j < i → q j = false
theorem says_no {xs : List TLsa} {o t : Int} (h : ∀ i, i < xs.length → og xs i ≠ o) : says xs o t = false := by unfold says; rw [findR_no h]; rfl
theorem says_at {xs : List TLsa} {o t : Int} {i : Nat} (hd : dbOk xs) (hi : i < xs.length) (h : og xs i = o) : says xs o t = hasTo xs[i].links t := by unfold says; rw [findR_at hd hi h]; simp
end Go.Proofs.YtohicpepcjgnaaaGreat
