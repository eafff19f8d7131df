/-
Contracts: distances.
-/
import Derived.Test.YtohicpepcjgnaaaGreatGraphC
set_option linter.all false
namespace Go.Proofs.YtohicpepcjgnaaaGreat
open Go Go.Abs Go.Proofs

theorem getD_ri {l : List Int} {i : Nat} (h : i < l.length) : (l.map ri).getD i [] = [.int .i64 (l.getD i 0)] := by simp [h]
theorem map_set_ri (l : List Int) (i : Nat) (x : Int) : (l.map ri).set i (ri x) = (l.set i x).map ri := by rw [List.map_set]

/-- A distance read off a row of them. -/
theorem dist_ld {n a b : Int} {es : List TEdge} {u : V} {H : Heap} {K : V → Prop} (hu : Rd H 1 u ((dist n es a).map ri)) (hg : graphOk n es) (hb : 0 ≤ b ∧ b < n) (h : K (.int .i64 (far n es a b))) :
    bnd (aIndex H 1 u (.int .i64 b)) fun t => bnd (aLd false 1 H t) K := by
  have hl : (dist n es a).length = n.toNat := (DOk.dist hg a).1
  refine hu.idx hb.1 (by simp; omega) fun p hp => ?_
  rw [hp.ld, getD_ri (by omega)]
  exact h

/-! #### the reference's -/
def InvRd (H : Heap) (n : Int) (m : Nat) (ys : List V) (Hc : Heap) : Prop :=
  ∃ (i : Nat) (u : V), (i : Int) ≤ n ∧ ys = [u, .int .i64 (i : Nat)] ∧ m = n.toNat - i ∧ Held H 1 ((List.replicate i (1000000 : Int)).map ri) u Hc
def InvKd (H : Heap) (n a : Int) (es : List TEdge) (v u : V) (m : Nat) (ys : List V) (Hc : Heap) : Prop :=
  ∃ k : Nat, (k : Int) ≤ n ∧ ys = [.box [.int .i64 n, v], .int .i64 (k : Nat)] ∧ m = n.toNat - k ∧ Held H 1 ((rounds es k (dist0 n a)).map ri) u Hc
def InvJd (H : Heap) (n a : Int) (es : List TEdge) (v u : V) (k : Nat) (m : Nat) (ys : List V) (Hc : Heap) : Prop :=
  ∃ j : Nat, j ≤ es.length ∧ ys = [.box [.int .i64 n, v], .int .i64 (j : Nat)] ∧ m = es.length - j ∧ Held H 1 ((part es j (rounds es k (dist0 n a))).map ri) u Hc

set_option maxHeartbeats 2000000 in
theorem C_s_Distances {n a : Int} {v : V} {es : List TEdge} {H : Heap} {K : V → Heap → Prop} (hv : Rd H 3 v (es.map enEdge)) (hg : graphOk n es) (ha : 0 ≤ a ∧ a < n) (h : ∀ u H', Held H 1 ((dist n es a).map ri) u H' → K u H') : ACalls P n_s_Distances [vG n v, .int .i64 a] H K := by
  have hc := hv.cell
  have hn := hg.1
  have hl := hg.2.1
  apply W_s_Distances
  unfold F_s_Distances
  simp [hc]
  refine C_s_GraphOk hv ?_
  simp [hg]
  refine C_s_l03Node hv hn ?_
  simp [ha, bsl_nil]
  intro o ho
  refine ⟨InvRd H n, ⟨n.toNat, Shr.of ⟨0, _, by omega, rfl, by omega, by simpa using Held.new ho⟩⟩, ?_⟩
  rintro m ys Hc ⟨i, u, hi, rfl, rfl, hu⟩
  simp
  refine ⟨fun hlt => ?_, fun hge => ?_⟩
  · simp [bsl_one]
    intro o2 ho2
    refine hu.append (sub_fresh ho2) (by simp) (by simp; omega) fun v' H' H'' ho' hs' => ?_
    rw [i64_in (by omega) (by omega)]
    refine ⟨n.toNat - (i + 1), by omega, H'', hs', i + 1, v', by omega, by simp, rfl, ?_⟩
    have e : List.map ri (List.replicate (i + 1) (1000000 : Int)) = List.map ri (List.replicate i (1000000 : Int)) ++ [[.int .i64 1000000]] := by
      rw [List.replicate_succ', List.map_append]; rfl
    rw [e]; exact ho'
  have e0 : i = n.toNat := by omega
  subst e0
  refine hu.pt (Abs.sub_refl _) ha.1 (by simp; omega) fun p hp => ?_
  refine hp.st (row' := ri 0) (by simp [stz_eq, putCells, show a.toNat < n.toNat by omega]) fun H1 H2 hu2 hs2 => ?_
  have e1 : (List.map ri (List.replicate n.toNat (1000000 : Int))).set a.toNat (ri 0) = (dist0 n a).map ri := by rw [map_set_ri]; rfl
  rw [e1] at hu2
  refine ⟨InvKd H n a es v u, ⟨n.toNat, H2, hs2, 0, by omega, by simp, by omega, hu2⟩, ?_⟩
  rintro m ys Hc2 ⟨k, hk, rfl, rfl, hu3⟩
  simp
  refine ⟨fun hlt => ?_, fun hge => ?_⟩
  · refine ⟨InvJd H n a es v u k, ⟨es.length, Shr.of ⟨0, by omega, by simp, by omega, by simpa [part] using hu3⟩⟩, ?_⟩
    rintro m ys Hc3 ⟨j, hj, rfl, rfl, hu4⟩
    have hvc := hv.mono hu4.sub
    simp [hvc.len]
    refine ⟨fun hlt2 => ?_, fun hge2 => ?_⟩
    · have he := ed_get hlt2
      have hok := hg.2.2 j hlt2
      rw [okAt, he] at hok
      obtain ⟨k1, k2, k3, k4, _⟩ := hok
      have dok := (DOk.zero (n := n) (a := a)).rounds hg k |>.part hg hj
      have next := part_succ (out := rounds es k (dist0 n a)) hlt2
      rw [he] at next
      generalize part es j (rounds es k (dist0 n a)) = out at *
      have d1 := dok.2 es[j].1.toNat (by omega)
      have d2 := dok.2 es[j].2.1.toNat (by omega)
      have dl := dok.1
      refine hvc.idx (by omega) (by simpa using hlt2) fun p hp => ?_
      simp only [hp.ld]
      simp [hlt2, stz_eq, putCells]
      refine ⟨_, Abs.sub_refl _, ?_⟩
      have r4 := hu4.rd ri_len
      rw [i64_in (n := (j : Int) + 1) (by omega) (by omega)]
      refine r4.idx k1.1 (by simp; omega) fun p hp => ?_
      rw [hp.ld, getD_ri (by omega)]
      simp
      refine ⟨fun q1 => ?_, fun q1 => ?_⟩
      · refine r4.idx k1.1 (by simp; omega) fun p hp => ?_
        rw [hp.ld, getD_ri (by omega)]
        simp
        refine r4.idx k2.1 (by simp; omega) fun p hp => ?_
        rw [hp.ld, getD_ri (by omega)]
        simp
        simp only [← List.getD_eq_getElem?_getD] at *
        rw [i64_in (n := out.getD es[j].1.toNat 0 + es[j].2.2) (by omega) (by omega)]
        refine ⟨fun q2 => ?_, fun q2 => ?_⟩
        · refine r4.idx k1.1 (by simp; omega) fun p hp => ?_
          rw [hp.ld, getD_ri (by omega)]
          simp
          simp only [← List.getD_eq_getElem?_getD] at *
          rw [i64_in (n := out.getD es[j].1.toNat 0 + es[j].2.2) (by omega) (by omega)]
          refine hu4.pt (Abs.sub_refl _) k2.1 (by simp; omega) fun p hp => ?_
          have hz : stz 1 ((List.map ri out).getD es[j].2.1.toNat []) 0 (.int .i64 (out.getD es[j].1.toNat 0 + es[j].2.2)) = some (ri (out.getD es[j].1.toNat 0 + es[j].2.2)) := by
            rw [getD_ri (by omega)]; simp [stz_eq, putCells]
          refine hp.st hz fun H5 H6 hu5 hs5 => ?_
          rw [map_set_ri] at hu5
          refine ⟨es.length - (j + 1), by omega, H6, hs5, j + 1, by omega, by simp, rfl, ?_⟩
          rw [next, relax, if_pos ⟨q1, q2⟩]
          exact hu5
        · refine ⟨es.length - (j + 1), by omega, Shr.of ⟨j + 1, by omega, by simp, rfl, ?_⟩⟩
          rw [next, relax, if_neg (by omega)]
          exact hu4
      · simp only [← List.getD_eq_getElem?_getD] at *
        refine ⟨es.length - (j + 1), by omega, Shr.of ⟨j + 1, by omega, by simp, rfl, ?_⟩⟩
        rw [next, relax, if_neg (by omega)]
        exact hu4
    · have : j = es.length := by omega
      subst this
      rw [i64_in (by omega) (by omega)]
      refine ⟨n.toNat - (k + 1), by omega, Shr.of ⟨k + 1, by omega, by simp, rfl, ?_⟩⟩
      rw [rounds, ← part_all]
      exact hu4
  · have : k = n.toNat := by omega
    subst this
    exact Ret.of (h _ _ hu3)

end Go.Proofs.YtohicpepcjgnaaaGreat
