/-
Contracts: a delivery, of both sides.
-/
import Derived.Test.YtohicpepcjgnaaaGreatDelivC
set_option linter.all false
namespace Go.Proofs.YtohicpepcjgnaaaGreat
open Go Go.Abs Go.Proofs

set_option maxHeartbeats 4000000 in
theorem C_i_Deliver {c : Bool} {a : TNet} {vs : List V} {k : Int} {H : Heap} {K : V → Heap → Prop} (hv : (netT false).rd H a vs) (hl : bNet a)
    (h : ∀ us H', Dp (netT false) H (deliverR a k).1 us H' → K (.tup [.agg us, .bool (deliverR a k).2]) H') : ACalls P n_i_Deliver [.agg vs, .int .i64 k] H K := by
  have hv' := hv
  obtain ⟨e0, d0, w0, rfl, g1, g2, g3⟩ := hv
  have hc := net_cell g1 g2 g3
  apply W_i_Deliver
  unfold F_i_Deliver
  simp [hc]
  refine C_i_ownNet (c := false) hv' hl fun us H3 hus => ?_
  have hus' := hus
  obtain ⟨e, d, w, H1, H2, rfl, h1, h2, h3⟩ := net_dp hus
  have ce := h1.cell
  have cd := dpS_cell h2
  have cw := dpS_cell h3
  intro o ho
  rw [aSt_at (upd_eq H3 o _)]
  simp [stz_eq, putCells, ce, cd, cw]
  have nb := NB.of hus' ho
  have hs : Abs.sub H (upd H3 o ⟨5, [netRow a e d w]⟩) := nb.sub
  refine C_i_isMsg ((netT false).mono hv' hs) hl ?_
  simp
  unfold deliverR at h
  refine ⟨fun q => ?_, fun q1 q2 q3 => ?_⟩
  · rw [if_neg (by rintro ⟨a1, a2, a3⟩; rcases q with q | q | q; exact q a1; omega; omega)] at h
    simp [aLd_at nb.box, ce, cd, cw, stz_eq, putCells]
    exact Ret.shr (h _ _ hus') rfl (sub_fresh ho)
  · rw [if_pos ⟨q1, q2, q3⟩] at h
    obtain ⟨k, rfl⟩ := Int.eq_ofNat_of_zero_le q2
    have hk : k < a.wires.length := by omega
    refine C_p_i_Net_deliver nb (Abs.sub_refl _) q1 hk fun Y e' d' w' H' Hn' f1 f2 f3 => ?_
    have hb' := f3 _ _ f2.box
    have hc' := f2.cell
    have hsz : bNet (deliverN a k) := small_sz (small_of (netOk_deliver q1))
    obtain ⟨Hz, z1, z2⟩ := f2.leave
    simp [aLd_at hb', hc']
    refine C_i_ownNet (c := false) ((netT false).mono z1.rd (sub_trans z2 f3)) hsz fun us H6 hus6 => ?_
    obtain ⟨e6, d6, w6, _, _, rfl, p1, p2, p3⟩ := net_dp hus6
    have c6 := And.intro p1.cell (And.intro (dpS_cell p2) (dpS_cell p3))
    simp [stz_eq, putCells, c6]
    have hs6 : Abs.sub H H' := sub_trans f1 (sub_trans f2.sub f3)
    obtain ⟨Hy, y1, y2⟩ := hus6.shrink hs6
    exact Ret.shr (h _ _ y1) rfl y2
/-- The box is read and left. -/
theorem net_end {c t : Bool} {Y H H' Hn : Heap} {o : Nat} {a : TNet} {e d w : V} {K : V → Heap → Prop} (hy : Abs.sub H Y) (hn : NB c Y o a e d w Hn) (hs : Abs.sub Hn H') (h : ∀ us H', Dp (netT c) H a us H' → K (.tup [.agg us, .bool t]) H') :
    bnd (aLd true 5 H' (.ptr o 0 0)) fun t58 =>
      bnd (stz 5 [(.int .i64 0), .nils, .nils, .nils, (.int .i64 0)] 0 t58) fun c59 =>
      bnd (if 5 ≤ c59.length then some (V.agg (List.take 5 c59)) else none) fun t60 =>
      Ret K (.tup [t60, (.bool t)]) H' := by
  have hb := hs _ _ hn.box
  have hc := hn.cell
  simp [aLd_at hb, hc, stz_eq, putCells]
  obtain ⟨Hz, z1, z2⟩ := hn.leave
  obtain ⟨Hy, y1, y2⟩ := z1.shrink hy
  exact Ret.shr (h _ _ y1) rfl (sub_trans y2 (sub_trans z2 hs))
theorem row_sta {H : Heap} {o r : Nat} {rows : List (List V)} {v v' : V} (ho : H o = some ⟨1, rows.set r [v]⟩) (hr : r < rows.length) (cv : cellsOf v' = [v'] ∧ cellOk v' = true ∧ notAny v' = true) : aSt 1 H (.ptr o r 0) (.agg [v']) = some (upd H o ⟨1, rows.set r [v']⟩) := by
  rw [aSt_own ho (row := [v]) (row' := [v']) (by simp [hr]) (by simp [stz_eq, putCells, cv])]
  simp
theorem db_small {xs : List TLsa} (h : dbOk xs) : xs.length + sumF szl xs ≤ 1048576 := by
  have h1 := db_len h
  have h2 := sumF_bound (f := szl) (xs := xs) (c := 16) fun l hl => by
    obtain ⟨j, hj, rfl⟩ := List.mem_iff_getElem.1 hl
    exact lsa_small (h.1 j hj)
  omega
theorem findR_small (xs : List TLsa) (o : Int) : szl (findR xs o).1 ≤ 16 := by
  unfold findR
  split
  · rename_i hd
    split
    · rename_i a ha
      obtain ⟨j, hj, rfl⟩ := List.mem_iff_getElem.1 (List.mem_of_find?_eq_some ha)
      exact lsa_small (hd.1 j hj)
    · simp [zeroL, szl]
  · simp [zeroL, szl]
end Go.Proofs.YtohicpepcjgnaaaGreat
