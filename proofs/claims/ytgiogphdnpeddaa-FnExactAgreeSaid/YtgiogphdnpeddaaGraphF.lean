/-
Contracts: the graph of a database.
-/
import Derived.Test.YtgiogphdnpeddaaGraphC
import Derived.Test.YtgiogphdnpeddaaDbF
import Derived.Test.YtgiogphdnpeddaaKindA
set_option linter.all false
namespace Go.Proofs.Ytgiogphdnpeddaa
open Go Go.Abs Go.Proofs

structure TGraph where
  n : Int
  es : List TEdge
theorem TGraph.eq_iff {a b : TGraph} : a = b ↔ a.n = b.n ∧ a.es = b.es := by
  constructor
  · rintro rfl; simp
  · intro h; cases a; cases b; simp_all
instance : DecidableEq TGraph := fun a b => decidable_of_iff (a.n = b.n ∧ a.es = b.es) TGraph.eq_iff.symm
def graphT (b : Bool) : Ty TGraph where
  n := 2
  rd H a vs := ∃ w, vs = [.int .i64 a.n, w] ∧ Rb b H 3 w (a.es.map enEdge)
  own a vs es := ∃ w, vs = [.int .i64 a.n, w] ∧ es = [⟨3, a.es.map enEdge, w⟩]
  len := by rintro H a vs ⟨w, rfl, _⟩; rfl
  mono := by rintro H H' a vs ⟨w, rfl, h1⟩ hs; exact ⟨w, rfl, h1.mono hs⟩
  ok := by
    rintro a vs es ⟨w, rfl, rfl⟩ e he r hr
    simp at he
    subst he
    exact enEdge_len r hr
  ofOwn := by
    rintro H a vs es ⟨w, rfl, rfl⟩ h
    exact ⟨w, rfl, (h ⟨3, a.es.map enEdge, w⟩ (by simp)).any b⟩
theorem Dp.graph {b : Bool} {a : TGraph} {w : V} {H0 H1 : Heap} (h : Held H0 3 (a.es.map enEdge) w H1) : Dp (graphT b) H0 a [.int .i64 a.n, w] H1 := ⟨_, ⟨w, rfl, rfl⟩, H1, h, rfl⟩
theorem graph_dp {b : Bool} {a : TGraph} {vs : List V} {H0 H1 : Heap} (h : Dp (graphT b) H0 a vs H1) : ∃ w, vs = [.int .i64 a.n, w] ∧ Held H0 3 (a.es.map enEdge) w H1 := by
  obtain ⟨es, ⟨w, rfl, rfl⟩, H1', h1, h2⟩ := h
  cases h2
  exact ⟨w, rfl, h1⟩
theorem graph_dp' {b : Bool} {a : TGraph} {n : Int} {w : V} {H0 H1 : Heap} (h : Dp (graphT b) H0 a [.int .i64 n, w] H1) : n = a.n ∧ Held H0 3 (a.es.map enEdge) w H1 := by
  obtain ⟨w', e, h1⟩ := graph_dp h
  simp at e
  rw [e.2]
  exact ⟨e.1, h1⟩

theorem C_l_heldEdgeS {n : Nat} {v : V} {k : Int} {H : Heap} {K : V → Heap → Prop} (hv : Rd H 3 v (mkEdge k n)) (hk : 0 ≤ k) (hkn : k + 3 * n ≤ 1000000000000) (h : K (.int .i64 (k + 3 * n)) H) : ACalls P n_l_heldEdgeS [v, .int .i64 k] H K := by
  have hl := hv.len
  rw [mkEdge_len] at hl
  apply W_l_heldEdgeS
  unfold F_l_heldEdgeS
  refine ⟨fun mm zs H' => ∃ i, i ≤ n ∧ zs = [.int .i64 (k + 3 * (i : Nat)), .int .i64 (i : Nat)] ∧ mm = n - i ∧ H' = H, n, Shr.of ⟨0, by omega, by simp, by omega, rfl⟩, ?_⟩
  rintro mm zs H' ⟨i, hi, rfl, rfl, rfl⟩
  simp [hl]
  refine ⟨fun hlt => ?_, fun hge => ?_⟩
  · have hrow : (mkEdge k n).getD i [] = enEdge (k + 3 * (i : Int), k + 3 * (i : Int) + 1, k + 3 * (i : Int) + 1 + 1) := by rw [List.getD_eq_getElem?_getD, mkEdge_get hlt]; rfl
    have e1 : IntKind.i64.wrap (k + 3 * (i : Int) + 1) = k + 3 * (i : Int) + 1 := i64_in (by omega) (by omega)
    have e2 : IntKind.i64.wrap (k + 3 * (i : Int) + 1 + 1) = k + 3 * (i : Int) + 1 + 1 := i64_in (by omega) (by omega)
    have e3 : IntKind.i64.wrap (k + 3 * (i : Int) + 1 + 1 + 1) = k + 3 * (i : Int) + 1 + 1 + 1 := i64_in (by omega) (by omega)
    have e0 : IntKind.i64.wrap ((i : Int) + 1) = (i : Int) + 1 := i64_in (by omega) (by omega)
    refine hv.idx (by omega) (by rw [mkEdge_len]; omega) fun p0 hp0 => ?_
    simp only [Int.toNat_natCast, hrow] at hp0
    refine hp0.fld fun q00 hq00 => ?_
    rw [hq00.ld]
    simp [e1, e0]
    refine hv.idx (by omega) (by rw [mkEdge_len]; omega) fun p1 hp1 => ?_
    simp only [Int.toNat_natCast, hrow] at hp1
    refine hp1.fld fun q10 hq10 => ?_
    rw [hq10.ld]
    simp [e2, e0]
    refine hv.idx (by omega) (by rw [mkEdge_len]; omega) fun p2 hp2 => ?_
    simp only [Int.toNat_natCast, hrow] at hp2
    refine hp2.fld fun q20 hq20 => ?_
    rw [hq20.ld]
    simp [e3, e0]
    exact ⟨n - (i + 1), by omega, Shr.of ⟨i + 1, by omega, by simp; omega, rfl, rfl⟩⟩
  · have : i = n := by omega
    subst this
    exact Ret.of h

def bGraph (a : TGraph) : Prop := a.es.length ≤ 1048576
theorem sB_Graph {a : TGraph} (h : bGraph a) : 3 * a.es.length ≤ 10000000 := by unfold bGraph at h; omega
def mkE (k : Int) (n : Nat) : List TEdge := (List.range n).map fun i => (k + 3 * (i : Nat), k + 3 * (i : Nat) + 1, k + 3 * (i : Nat) + 1 + 1)
theorem mkE_eq (k : Int) (n : Nat) : mkEdge k n = (mkE k n).map enEdge := by unfold mkEdge mkE; rw [List.map_map]; rfl
@[simp] theorem mkE_len (k : Int) (n : Nat) : (mkE k n).length = n := by simp [mkE]
theorem C_eq_Graph {b c : Bool} {a a' : TGraph} {vs us : List V} {H : Heap} {K : V → Heap → Prop} (hv : (graphT b).rd H a vs) (hw : (graphT c).rd H a' us) (hb : bGraph a) (h : K (.bool (decide (a = a'))) H) : ACalls P n_l_eqGraph [.agg vs, .agg us] H K := by
  obtain ⟨w, rfl, h1⟩ := hv
  obtain ⟨w', rfl, h2⟩ := hw
  unfold bGraph at hb
  exact C_l_eqGraph h1.1 h2.1 (by omega) (by rw [decide_eq_decide.2 TGraph.eq_iff.symm]; exact h)
theorem C_mark_Graph {a : TGraph} {vs : List V} {k : Int} {H0 Ho H : Heap} {K : V → Heap → Prop} (hu : Dp (graphT false) H0 a vs Ho) (hs : Abs.sub Ho H) (hb : bGraph a) (hk : 0 ≤ k ∧ k ≤ 1000000000)
    (h : ∀ H' Ho', Dp (graphT false) H0 ⟨a.n, mkE k a.es.length⟩ vs Ho' → Abs.sub Ho' H' → K (.int .i64 (k + 3 * a.es.length)) H') : ACalls P n_l_markGraph [.agg vs, .int .i64 k] H K := by
  obtain ⟨w, rfl, h1⟩ := graph_dp hu
  unfold bGraph at hb
  refine C_l_markGraph h1 hs enEdge_len hk.1 (by simp; omega) fun H' Ho' h2 h3 => ?_
  simp at h2 ⊢
  rw [mkE_eq] at h2
  exact h H' Ho' (Dp.graph (a := ⟨a.n, mkE k a.es.length⟩) h2) h3
theorem C_held_Graph {b : Bool} {a : TGraph} {vs : List V} {k : Int} {H : Heap} {K : V → Heap → Prop} (hv : (graphT b).rd H ⟨a.n, mkE k a.es.length⟩ vs) (hb : bGraph a) (hk : 0 ≤ k ∧ k ≤ 1000000000) (h : K (.int .i64 (k + 3 * a.es.length)) H) : ACalls P n_l_heldGraph [.agg vs, .int .i64 k] H K := by
  obtain ⟨w, rfl, h1⟩ := hv
  have hc := h1.1.cell
  have h1 := h1.1
  simp only [← mkE_eq] at h1
  unfold bGraph at hb
  apply W_l_heldGraph
  unfold F_l_heldGraph
  simp [hc]
  refine C_l_heldEdgeS h1 hk.1 (by omega) ?_
  simp
  exact ⟨fun hh => absurd hh (by omega), fun _ => Ret.of h⟩

/-! #### does an origin say that it has a link -/
def lto (ls : List TLink) (i : Nat) : Int := (lk ls i).1
theorem lto_get {ls : List TLink} {i : Nat} (h : i < ls.length) : lto ls i = ls[i].1 := by unfold lto; rw [lk_get h]
def hasTo (ls : List TLink) (t : Int) : Bool := decide (∃ i, i < ls.length ∧ decide (lto ls i = t) = true)
def says (xs : List TLsa) (o t : Int) : Bool := (findR xs o).2 && hasTo (findR xs o).1.links t
def InvIx (len : Nat) (q : Nat → Bool) (H : Heap) (m : Nat) (ys : List V) (Hc : Heap) : Prop :=
  ∃ i, i ≤ len ∧ ys = [.int .i64 (i : Nat)] ∧ m = len - i ∧ Hc = H ∧ ∀ j, j < i → q j = false
theorem says_no {xs : List TLsa} {o t : Int} (h : ∀ i, i < xs.length → og xs i ≠ o) : says xs o t = false := by unfold says; rw [findR_no h]; rfl
theorem says_at {xs : List TLsa} {o t : Int} {i : Nat} (hd : dbOk xs) (hi : i < xs.length) (h : og xs i = o) : says xs o t = hasTo xs[i].links t := by unfold says; rw [findR_at hd hi h]; simp
end Go.Proofs.Ytgiogphdnpeddaa
