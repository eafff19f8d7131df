/-
Contracts: all distances, hops.
-/
import Derived.Test.YtipdfhjilegkcaaGraphE
set_option linter.all false
namespace Go.Proofs.Ytipdfhjilegkcaa
open Go Go.Abs Go.Proofs

def allD (n : Int) (es : List TEdge) : List (List (List V)) := (List.range n.toNat).map fun i => (dist n es (i : Nat)).map ri
theorem allD_len (n : Int) (es : List TEdge) : (allD n es).length = n.toNat := by simp [allD]
theorem allD_get {n : Int} {es : List TEdge} {a : Int} (ha : 0 ≤ a ∧ a < n) : (allD n es).getD a.toNat [] = (dist n es a).map ri := by
  have h : a.toNat < n.toNat := by omega
  have e : ((a.toNat : Nat) : Int) = a := by omega
  simp [allD, h, e]
/-- A distance read off the table of all. -/
theorem far_ld {n a b : Int} {es : List TEdge} {u : V} {H : Heap} {K : V → Prop} (hu : Rd2 H 1 u (allD n es)) (hg : graphOk n es) (ha : 0 ≤ a ∧ a < n) (hb : 0 ≤ b ∧ b < n) (h : K (.int .i64 (far n es a b))) :
    bnd (aIndex H 1 u (.int .i64 a)) fun t => bnd (aLd false 1 H t) fun w => bnd (aIndex H 1 w (.int .i64 b)) fun t2 => bnd (aLd false 1 H t2) K := by
  refine hu.idx ha.1 (by rw [allD_len]; omega) fun p w hp hw => ?_
  rw [hp]
  simp
  rw [allD_get ha] at hw
  exact dist_ld hw hg hb h

def InvA (H : Heap) (n : Int) (es : List TEdge) (m : Nat) (ys : List V) (Hc : Heap) : Prop :=
  ∃ (i : Nat) (u : V) (ws : List V) (Hb : Heap), (i : Int) ≤ n ∧ ys = [u, .int .i64 (i : Nat)] ∧ m = n.toNat - i ∧ ws.length = i ∧ Abs.sub H Hb ∧ (∀ j, j < i → Rd Hb 1 (ws.getD j .any) ((dist n es (j : Nat)).map ri)) ∧ Held Hb 1 (ws.map fun w => [w]) u Hc

theorem C_i_Graph_all {n : Int} {v : V} {es : List TEdge} {H : Heap} {K : V → Heap → Prop} (hv : Rd H 3 v (es.map enEdge)) (hg : graphOk n es) (h : ∀ u H', Abs.sub H H' → Rd2 H' 1 u (allD n es) → K u H') : ACalls P n_i_Graph_all [vG n v] H K := by
  have hc := hv.cell
  have hn := hg.1
  apply W_i_Graph_all
  unfold F_i_Graph_all
  simp [hc, bsl_nil]
  intro o ho
  refine ⟨InvA H n es, ⟨n.toNat, Shr.of ⟨0, _, [], H, by omega, rfl, by omega, rfl, Abs.sub_refl _, fun j hj => absurd hj (by omega), Held.new ho⟩⟩, ?_⟩
  rintro m ys Hc ⟨i, u, ws, Hb, hi, rfl, rfl, hlen, hsb, hws, hu⟩
  simp
  have hsc := sub_trans hsb hu.sub
  refine ⟨fun hlt => ?_, fun hge => ?_⟩
  · refine C_i_Graph_distances (hv.mono hsc) hg (by omega) fun w H1 hw => ?_
    have hwc := hw.cell
    obtain ⟨Hb', q1, q2⟩ := hu.swap hw
    rw [bsl_one 1 [.nils] w rfl (by omega) (by simp [hwc]) (by simp [hwc]) (by omega)]
    simp [hwc]
    intro o2 ho2
    refine q2.append (sub_fresh ho2) (by simp) (by simp; omega) fun v' H' H'' ho' hs' => ?_
    rw [i64_in (by omega) (by omega)]
    refine ⟨n.toNat - (i + 1), by omega, H'', hs', i + 1, v', ws ++ [w], Hb', by omega, by simp, rfl, by simp [hlen], sub_trans hsb q1.sub, fun j hj => ?_, by simpa using ho'⟩
    by_cases e : j = i
    · subst e
      rw [show (ws ++ [w]).getD j .any = w by simp [← hlen]]
      exact q1.rd ri_len
    · rw [show (ws ++ [w]).getD j .any = ws.getD j .any by rw [List.getD_eq_getElem?_getD, List.getElem?_append_left (by omega), ← List.getD_eq_getElem?_getD]]
      exact (hws j (by omega)).mono q1.sub
  · have e : i = n.toNat := by omega
    subst e
    refine Ret.of (h u Hc hsc ⟨ws, by rw [allD_len]; exact hlen, hu.rd (by simp), fun j hj => ?_⟩)
    rw [allD_len] at hj
    have := (hws j hj).mono hu.sub
    rw [show (allD n es).getD j [] = (dist n es (j : Nat)).map ri by simp [allD, hj]]
    exact this

/-! #### hops -/
def hopsP (n : Int) (es : List TEdge) (a b : Int) (i : Nat) : List Int := (es.take i).filterMap (hopAt n es a b)
theorem hopsP_len (n : Int) (es : List TEdge) (a b : Int) (i : Nat) : (hopsP n es a b i).length ≤ i := by
  unfold hopsP
  have := List.length_filterMap_le (hopAt n es a b) (es.take i)
  have := List.length_take_le i es
  omega
theorem hopsP_succ {n : Int} {es : List TEdge} {a b : Int} {i : Nat} (h : i < es.length) : hopsP n es a b (i + 1) = hopsP n es a b i ++ (hopAt n es a b es[i]).toList := by
  unfold hopsP
  rw [List.take_succ_eq_append_getElem h, List.filterMap_append]
  congr 1

def InvH (H : Heap) (n : Int) (es : List TEdge) (a b : Int) (m : Nat) (ys : List V) (Hc : Heap) : Prop :=
  ∃ (i : Nat) (u : V), i ≤ es.length ∧ ys = [u, .int .i64 (i : Nat)] ∧ m = es.length - i ∧ Held H 1 ((hopsP n es a b i).map ri) u Hc

end Go.Proofs.Ytipdfhjilegkcaa
