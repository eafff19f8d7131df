/-
Contracts: the graph of a database.
-/
import Derived.Test.YtaippfedjjjpeaaGreatGraphM
import Derived.Test.YtaippfedjjjpeaaGreatDbF
import Derived.Test.YtaippfedjjjpeaaGreatKindA
set_option linter.all false
namespace Go.Proofs.YtaippfedjjjpeaaGreat
open Go Go.Abs Go.Proofs

structure TGraph where
  n : Int
  es : List TEdge
theorem TGraph.eq_iff {a b : TGraph} : a = b ↔ a.n = b.n ∧ a.es = b.es := by
  constructor
  · rintro rfl; simp
  · intro h; cases a; cases b; simp_all
instance : DecidableEq TGraph := fun a b => decidable_of_iff (a.n = b.n ∧ a.es = b.es) TGraph.eq_iff.symm
def graphT (b : Bool) : Ty TGraph where
  n := 2
  rd H a vs := ∃ w, vs = [.int .i64 a.n, w] ∧ Rb b H 3 w (a.es.map enEdge)
  own a vs es := ∃ w, vs = [.int .i64 a.n, w] ∧ es = [⟨3, a.es.map enEdge, w⟩]
  len := by rintro H a vs ⟨w, rfl, _⟩; rfl
  mono := by rintro H H' a vs ⟨w, rfl, h1⟩ hs; exact ⟨w, rfl, h1.mono hs⟩
  ok := by
    rintro a vs es ⟨w, rfl, rfl⟩ e he r hr
    simp at he
    subst he
    exact enEdge_len r hr
  ofOwn := by
    rintro H a vs es ⟨w, rfl, rfl⟩ h
    exact ⟨w, rfl, (h ⟨3, a.es.map enEdge, w⟩ (by simp)).any b⟩
theorem Dp.graph {b : Bool} {a : TGraph} {w : V} {H0 H1 : Heap} (h : Held H0 3 (a.es.map enEdge) w H1) : Dp (graphT b) H0 a [.int .i64 a.n, w] H1 := ⟨_, ⟨w, rfl, rfl⟩, H1, h, rfl⟩
theorem graph_dp {b : Bool} {a : TGraph} {vs : List V} {H0 H1 : Heap} (h : Dp (graphT b) H0 a vs H1) : ∃ w, vs = [.int .i64 a.n, w] ∧ Held H0 3 (a.es.map enEdge) w H1 := by
  obtain ⟨es, ⟨w, rfl, rfl⟩, H1', h1, h2⟩ := h
  cases h2
  exact ⟨w, rfl, h1⟩
theorem graph_dp' {b : Bool} {a : TGraph} {n : Int} {w : V} {H0 H1 : Heap} (h : Dp (graphT b) H0 a [.int .i64 n, w] H1) : n = a.n ∧ Held H0 3 (a.es.map enEdge) w H1 := by
  obtain ⟨w', e, h1⟩ := graph_dp h
  simp at e
  rw [e.2]
  exact ⟨e.1, h1⟩

def bGraph (a : TGraph) : Prop := a.es.length ≤ 1048576
theorem sB_Graph {a : TGraph} (h : bGraph a) : 3 * a.es.length ≤ 10000000 := by unfold bGraph at h; omega
def mkE (k : Int) (n : Nat) : List TEdge := (List.range n).map fun i => (k + 3 * (i : Nat), k + 3 * (i : Nat) + 1, k + 3 * (i : Nat) + 1 + 1)
theorem mkE_eq (k : Int) (n : Nat) : mkEdge k n = (mkE k n).map enEdge := by unfold mkEdge mkE; rw [List.map_map]; rfl
@[simp] theorem mkE_len (k : Int) (n : Nat) : (mkE k n).length = n := by simp [mkE]
/-! #### does an origin say that it has a link -/
def lto (ls : List TLink) (i : Nat) : Int := (lk ls i).1
theorem lto_get {ls : List TLink} {i : Nat} (h : i < ls.length) : lto ls i = ls[i].1 := by unfold lto; rw [lk_get h]
def hasTo (ls : List TLink) (t : Int) : Bool := decide (∃ i, i < ls.length ∧ decide (lto ls i = t) = true)
def says (xs : List TLsa) (o t : Int) : Bool := (findR xs o).2 && hasTo (findR xs o).1.links t
theorem C_s_l06Says {b : Bool} {xs : List TLsa} {w : V} {o t : Int} {H : Heap} {K : V → Heap → Prop} (hv : (dbT b).rd H xs [w]) (hl : xs.length + sumF szl xs ≤ 1048576) (h : K (.bool (says xs o t)) H) : ACalls P n_s_l06Says [.agg [w], .int .i64 o, .int .i64 t] H K := by
  have hc := rdS_cell hv
  have hsz := findR_sz (o := o) hl
  apply W_s_l06Says
  unfold F_s_l06Says
  simp [hc]
  refine C_s_FindLsa (c := false) hv hl fun us H1 hus => ?_
  unfold says at h
  generalize findR xs o = r at *
  obtain ⟨l, s, Hm, rfl, w1, w2⟩ := lsa_dp hus
  have c1 := w1.cell
  have c2 := w2.cell
  have hsub := hus.sub
  simp [stz_eq, putCells, c1, c2]
  refine ⟨fun q => Ret.shr h (by simp [q]) hsub, fun q => ?_⟩
  have rdl := (w1.rd enLink_len).mono w2.sub
  refine ⟨fun m ys Hc => ∃ i : Nat, i ≤ r.1.links.length ∧ ys = [.int .i64 (i : Nat)] ∧ m = r.1.links.length - i ∧ Hc = H1 ∧ ∀ j, j < i → lto r.1.links j ≠ t, ⟨r.1.links.length, Shr.of ⟨0, by omega, rfl, by omega, rfl, fun j hj => absurd hj (by omega)⟩⟩, ?_⟩
  rintro m ys Hc ⟨i, hi, rfl, rfl, rfl, hno⟩
  simp [rdl.len]
  refine ⟨fun hlt => ?_, fun hge => ?_⟩
  · refine rdl.idx (by omega) (by simpa using hlt) fun p hp => ?_
    refine hp.fld fun p1 hp1 => ?_
    rw [hp1.ld]
    simp [hlt]
    have hg := lto_get hlt
    refine ⟨fun e => Ret.shr h (by simp [q, hasTo]; exact ⟨i, hlt, by rw [hg]; exact e⟩) hsub, fun e => ?_⟩
    rw [i64_in (by omega) (by omega)]
    exact ⟨r.1.links.length - (i + 1), by omega, Shr.of ⟨i + 1, by omega, by simp, rfl, rfl, fun j hj => by
      by_cases e2 : j = i
      · subst e2; rw [hg]; exact e
      · exact hno j (by omega)⟩⟩
  · have : i = r.1.links.length := by omega
    subst this
    refine Ret.shr h ?_ hsub
    simp [q, hasTo]
    exact fun j hj => hno j hj
def InvIx (len : Nat) (q : Nat → Bool) (H : Heap) (m : Nat) (ys : List V) (Hc : Heap) : Prop :=
  ∃ i, i ≤ len ∧ ys = [.int .i64 (i : Nat)] ∧ m = len - i ∧ Hc = H ∧ ∀ j, j < i → q j = false
theorem C_ContainsFunc_Link {v f : V} {es : List TLink} {q : Nat → Bool} {H : Heap} {K : V → Heap → Prop} (hv : Rd H 2 v (es.map enLink)) (hl : es.length ≤ 2000000) (hf : ∀ i (hi : i < es.length) K', K' (.bool (q i)) H → callK P H f [.agg (enLink es[i])] K')
    (h : K (.bool (decide (∃ i, i < es.length ∧ q i = true))) H) : ACalls P n_slices_ContainsFunc_i_Link_i_Link [v, f] H K := by
  apply W_slices_ContainsFunc_i_Link_i_Link
  unfold F_slices_ContainsFunc_i_Link_i_Link
  apply W_slices_IndexFunc_i_Link_i_Link
  unfold F_slices_IndexFunc_i_Link_i_Link
  simp [hv.len]
  refine ⟨InvIx es.length q H, ⟨es.length, Shr.of ⟨0, by omega, by simp, by omega, rfl, fun j hj => absurd hj (by omega)⟩⟩, ?_⟩
  rintro m ys Hc ⟨i, hi, rfl, rfl, rfl, hok⟩
  simp
  refine ⟨fun hlt => ?_, fun hge => ?_⟩
  · refine hv.idx (by omega) (by simpa using hlt) fun p hp => ?_
    simp only [hp.ld]
    simp [hlt]
    refine hf i hlt _ ?_
    cases hq : q i
    · simp
      rw [i64_in (n := (i : Int) + 1) (by omega) (by omega)]
      exact ⟨es.length - (i + 1), by omega, Shr.of ⟨i + 1, by omega, by simp, rfl, rfl, fun j hj => by
        by_cases e : j = i
        · subst e; exact hq
        · exact hok j (by omega)⟩⟩
    · simp
      refine Ret.of ?_
      simp
      exact Ret.eq h (by simp; exact ⟨i, hlt, hq⟩)
  · have : i = es.length := by omega
    subst this
    refine Ret.of ?_
    simp
    exact Ret.eq h (by simp; exact fun j hj => by simp [hok j hj])
theorem says_no {xs : List TLsa} {o t : Int} (h : ∀ i, i < xs.length → og xs i ≠ o) : says xs o t = false := by unfold says; rw [findR_no h]; rfl
theorem says_at {xs : List TLsa} {o t : Int} {i : Nat} (hd : dbOk xs) (hi : i < xs.length) (h : og xs i = o) : says xs o t = hasTo xs[i].links t := by unfold says; rw [findR_at hd hi h]; simp
theorem C_i_Db_hasLink {b : Bool} {xs : List TLsa} {w : V} {o t : Int} {H : Heap} {K : V → Heap → Prop} (hv : (dbT b).rd H xs [w]) (hd : dbOk xs) (hl : xs.length + sumF szl xs ≤ 1048576) (h : K (.bool (says xs o t)) H) : ACalls P n_i_Db_hasLink [.agg [w], .int .i64 o, .int .i64 t] H K := by
  have hc := rdS_cell hv
  apply W_i_Db_hasLink
  unfold F_i_Db_hasLink
  simp [hc]
  intro o1 ho1
  have hs := sub_fresh (x := ⟨1, [[.int .i64 t]]⟩) ho1
  have hv' := (dbT b).mono hv hs
  refine C_i_Db_find hv' hd fun i h1 h2 h3 => ?_
  simp
  refine ⟨fun q1 q2 => ?_, fun q => ?_⟩
  · refine rdS_idx hv' (by omega) (by simpa using q1) fun p row hp hr => ?_
    simp only [Int.toNat_natCast] at hr
    obtain ⟨l, s, rfl, g1, g2⟩ := hr
    have hcc := lsa_cell g1 g2
    refine hp.fld fun p1 hp1 => ?_
    rw [hp1.ld]
    simp [hcc]
    have hz := le_sumF (f := szl) q1
    have hz' : szl xs[i] = xs[i].links.length + xs[i].stubs.length := rfl
    refine C_ContainsFunc_Link (q := fun j => decide (lto xs[i].links j = t)) g1.1 (by omega) (fun j hj K' hk => ?_) ?_
    · simp only [callK]
      rw [E_i_Db_hasLink_1]
      show ACalls P n_i_Db_hasLink_1 [.agg (enLink xs[i].links[j]), .ptr o1 0 0] _ K'
      apply W_i_Db_hasLink_1
      unfold F_i_Db_hasLink_1
      simp [aLd_at (upd_eq H o1 _)]
      rw [lto_get hj] at hk
      exact Ret.of (by simpa using hk)
    · rw [says_at hd q1 q2] at h
      exact Ret.shr h rfl hs
  · have : ∀ j, j < xs.length → og xs j ≠ o := fun j hj => by
      by_cases e : j < i
      · have := h2 j e; omega
      · by_cases e2 : j = i
        · subst e2; exact q hj
        · have := og_lt hd (i := i) (j := j) (by omega) hj
          have := h3 i (by omega) (by omega)
          omega
    rw [says_no this] at h
    exact Ret.shr h rfl hs
end Go.Proofs.YtaippfedjjjpeaaGreat
