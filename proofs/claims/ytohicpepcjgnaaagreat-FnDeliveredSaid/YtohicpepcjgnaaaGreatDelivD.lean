/-
Contracts: a delivery, of both sides.
-/
import Derived.Test.YtohicpepcjgnaaaGreatDelivC
set_option linter.all false
namespace Go.Proofs.YtohicpepcjgnaaaGreat
open Go Go.Abs Go.Proofs

set_option maxHeartbeats 4000000 in
theorem C_i_Deliver {c : Bool} {a : TNet} {vs : List V} {k : Int} {H : Heap} {K : V → Heap → Prop} (hv : (netT false).rd H a vs) (hl : bNet a)
    (h : ∀ us H', Dp (netT false) H (deliverR a k).1 us H' → K (.tup [.agg us, .bool (deliverR a k).2]) H') : ACalls P n_i_Deliver [.agg vs, .int .i64 k] H K := by
  have hv' := hv
  obtain ⟨e0, d0, w0, rfl, g1, g2, g3⟩ := hv
  have hc := net_cell g1 g2 g3
  apply W_i_Deliver
  unfold F_i_Deliver
  simp [hc]
  refine C_i_ownNet (c := false) hv' hl fun us H3 hus => ?_
  have hus' := hus
  obtain ⟨e, d, w, H1, H2, rfl, h1, h2, h3⟩ := net_dp hus
  have ce := h1.cell
  have cd := dpS_cell h2
  have cw := dpS_cell h3
  intro o ho
  rw [aSt_at (upd_eq H3 o _)]
  simp [stz_eq, putCells, ce, cd, cw]
  have nb := NB.of hus' ho
  have hs : Abs.sub H (upd H3 o ⟨5, [netRow a e d w]⟩) := nb.sub
  refine C_i_isMsg ((netT false).mono hv' hs) hl ?_
  simp
  unfold deliverR at h
  refine ⟨fun q => ?_, fun q1 q2 q3 => ?_⟩
  · rw [if_neg (by rintro ⟨a1, a2, a3⟩; rcases q with q | q | q; exact q a1; omega; omega)] at h
    simp [aLd_at nb.box, ce, cd, cw, stz_eq, putCells]
    exact Ret.shr (h _ _ hus') rfl (sub_fresh ho)
  · rw [if_pos ⟨q1, q2, q3⟩] at h
    obtain ⟨k, rfl⟩ := Int.eq_ofNat_of_zero_le q2
    have hk : k < a.wires.length := by omega
    refine C_p_i_Net_deliver nb (Abs.sub_refl _) q1 hk fun Y e' d' w' H' Hn' f1 f2 f3 => ?_
    have hb' := f3 _ _ f2.box
    have hc' := f2.cell
    have hsz : bNet (deliverN a k) := small_sz (small_of (netOk_deliver q1))
    obtain ⟨Hz, z1, z2⟩ := f2.leave
    simp [aLd_at hb', hc']
    refine C_i_ownNet (c := false) ((netT false).mono z1.rd (sub_trans z2 f3)) hsz fun us H6 hus6 => ?_
    obtain ⟨e6, d6, w6, _, _, rfl, p1, p2, p3⟩ := net_dp hus6
    have c6 := And.intro p1.cell (And.intro (dpS_cell p2) (dpS_cell p3))
    simp [stz_eq, putCells, c6]
    have hs6 : Abs.sub H H' := sub_trans f1 (sub_trans f2.sub f3)
    obtain ⟨Hy, y1, y2⟩ := hus6.shrink hs6
    exact Ret.shr (h _ _ y1) rfl y2
/-- The box is read and left. -/
theorem net_end {c t : Bool} {Y H H' Hn : Heap} {o : Nat} {a : TNet} {e d w : V} {K : V → Heap → Prop} (hy : Abs.sub H Y) (hn : NB c Y o a e d w Hn) (hs : Abs.sub Hn H') (h : ∀ us H', Dp (netT c) H a us H' → K (.tup [.agg us, .bool t]) H') :
    bnd (aLd true 5 H' (.ptr o 0 0)) fun t58 =>
      bnd (stz 5 [(.int .i64 0), .nils, .nils, .nils, (.int .i64 0)] 0 t58) fun c59 =>
      bnd (if 5 ≤ c59.length then some (V.agg (List.take 5 c59)) else none) fun t60 =>
      Ret K (.tup [t60, (.bool t)]) H' := by
  have hb := hs _ _ hn.box
  have hc := hn.cell
  simp [aLd_at hb, hc, stz_eq, putCells]
  obtain ⟨Hz, z1, z2⟩ := hn.leave
  obtain ⟨Hy, y1, y2⟩ := z1.shrink hy
  exact Ret.shr (h _ _ y1) rfl (sub_trans y2 (sub_trans z2 hs))
theorem row_sta {H : Heap} {o r : Nat} {rows : List (List V)} {v v' : V} (ho : H o = some ⟨1, rows.set r [v]⟩) (hr : r < rows.length) (cv : cellsOf v' = [v'] ∧ cellOk v' = true ∧ notAny v' = true) : aSt 1 H (.ptr o r 0) (.agg [v']) = some (upd H o ⟨1, rows.set r [v']⟩) := by
  rw [aSt_own ho (row := [v]) (row' := [v']) (by simp [hr]) (by simp [stz_eq, putCells, cv])]
  simp
theorem db_small {xs : List TLsa} (h : dbOk xs) : xs.length + sumF szl xs ≤ 1048576 := by
  have h1 := db_len h
  have h2 := sumF_bound (f := szl) (xs := xs) (c := 16) fun l hl => by
    obtain ⟨j, hj, rfl⟩ := List.mem_iff_getElem.1 hl
    exact lsa_small (h.1 j hj)
  omega
theorem findR_small (xs : List TLsa) (o : Int) : szl (findR xs o).1 ≤ 16 := by
  unfold findR
  split
  · rename_i hd
    split
    · rename_i a ha
      obtain ⟨j, hj, rfl⟩ := List.mem_iff_getElem.1 (List.mem_of_find?_eq_some ha)
      exact lsa_small (hd.1 j hj)
    · simp [zeroL, szl]
  · simp [zeroL, szl]
set_option maxHeartbeats 4000000 in
theorem C_s_Deliver {b c : Bool} {a : TNet} {vs : List V} {k : Int} {H : Heap} {K : V → Heap → Prop} (hv : (netT b).rd H a vs) (hl : bNet a)
    (h : ∀ us H', Dp (netT c) H (deliverR a k).1 us H' → K (.tup [.agg us, .bool (deliverR a k).2]) H') : ACalls P n_s_Deliver [.agg vs, .int .i64 k] H K := by
  have hv' := hv
  obtain ⟨e0, d0, w0, rfl, g1, g2, g3⟩ := hv
  have hc := net_cell g1 g2 g3
  apply W_s_Deliver
  unfold F_s_Deliver
  simp [hc]
  refine C_s_NetOk hv' hl ?_
  have hb : a.wires.length ≤ 1048576 := by unfold bNet szn at hl; omega
  simp [rdS_len g3]
  unfold deliverR at h
  have no : ¬ (netOk a ∧ 0 ≤ k ∧ k ≤ (a.wires.length : Int) - 1) → ∀ (H2 : Heap), Abs.sub H H2 → ACalls P n_s_l08Copy [.agg (netRow a e0 d0 w0)] H2 fun v12 H13 =>
      bnd (stz 5 [(.int .i64 0), .nils, .nils, .nils, (.int .i64 0)] 0 v12) fun c14 =>
      bnd (if 5 ≤ c14.length then some (V.agg (List.take 5 c14)) else none) fun t15 =>
      Ret K (.tup [t15, (.bool false)]) H13 := fun q H2 hs2 => by
    rw [if_neg q] at h
    refine C_s_l08Copy (c := c) ((netT b).mono hv' hs2) hl fun us H3 hus => ?_
    obtain ⟨Hy, y1, y2⟩ := hus.shrink hs2
    obtain ⟨e6, d6, w6, _, _, rfl, p1, p2, p3⟩ := net_dp hus
    have c6 := And.intro p1.cell (And.intro (dpS_cell p2) (dpS_cell p3))
    simp [stz_eq, putCells, c6]
    exact Ret.shr (h _ _ y1) rfl y2
  refine ⟨fun q => no (fun hh => q hh.1) _ (Abs.sub_refl _), fun q => ?_⟩
  rw [i64_in (by omega) (by omega)]
  refine C_s_l01In ?_
  simp
  refine ⟨fun f => no (fun hh => by omega) _ (Abs.sub_refl _), fun q2 q3 => ?_⟩
  rw [if_pos ⟨q, q2, q3⟩] at h
  clear no
  obtain ⟨k, rfl⟩ := Int.eq_ofNat_of_zero_le q2
  have hk : k < a.wires.length := by omega
  refine C_s_l08Off (c := c) hv' hl hk fun us ms Hm H3 hsm hms hus => ?_
  have hus' := hus
  obtain ⟨e, d, w, H1, H2, rfl, h1, h2, h3⟩ := net_dp hus
  have ce := h1.cell
  have cd := dpS_cell h2
  have cw := dpS_cell h3
  have hmk : deliverN a k = takeN (offN a k) a.wires[k] := by
    unfold deliverN
    rw [List.getElem?_eq_getElem hk]
  simp only [Int.toNat_natCast] at h
  rw [hmk] at h
  have hmo : msgOk (offN a k).up.n a.wires[k] := q.2.2.2.2.2.2.2 k hk
  have hok1 : netOk (offN a k) := netOk_off q
  generalize a.wires[k] = m at *
  obtain ⟨lr, rfl, hlr⟩ := hms
  have hlr0 := hlr
  obtain ⟨lv, sv, rfl, s1, s2⟩ := hlr0
  have hlc := lsa_cell s1 s2
  generalize offN a k = a1 at *
  simp [aExtract]
  intro o ho
  rw [aSt_at (upd_eq H3 o _)]
  simp [stz_eq, putCells, ce, cd, cw, hlc, aField_box]
  have nb := NB.of hus' ho
  have hs : Abs.sub H (upd H3 o ⟨5, [netRow a1 e d w]⟩) := sub_trans hsm nb.sub
  generalize upd H3 o ⟨5, [netRow a1 e d w]⟩ = Hn at *
  simp [aLd_at nb.box, ce]
  refine C_s_l03Cost nb.rows.1 hok1.1 ?_
  simp
  unfold takeN at h
  refine ⟨fun f1 => ?_, fun f1 => ?_⟩
  · rw [if_pos f1] at h
    exact net_end hsm nb (Abs.sub_refl _) h
  · rw [if_neg f1] at h
    have hlok := hmo.2.2.2
    obtain ⟨hr1, hdb1, hdo1⟩ := db_at hok1 hmo.2.1
    obtain ⟨od, cap, Yw, rws, rfl, hrl, hdb, hsy, hbk⟩ := nb.elem hr1
    rw [hdb1] at h
    simp [aLd_at nb.box]
    rw [hdb.pt (Abs.sub_refl _) hmo.2.1.1 hr1]
    obtain ⟨v1, hod, hrr, hdp⟩ := hdb
    have c1 := dpS_cell hdp
    have hbod : Hn od = some ⟨1, rws.set m.2.1.toNat [v1]⟩ := hdp.sub _ _ (upd_eq _ _ _)
    simp [row_ld hbod hrr, c1]
    have hdo2 : dbOk (installR a1.dbs[m.2.1.toNat] m.2.2).1 := install_ok hdo1
    have hok2 : netOk ⟨a1.up, a1.dbs.set m.2.1.toNat (installR a1.dbs[m.2.1.toNat] m.2.2).1, a1.wires, a1.lost⟩ := netOk_db hok1 hdo2
    refine C_s_Install (b := c) (b' := c) (c := c) hdp.rd ((lsaT c).mono hlr nb.sub) (db_small hdo1) fun u H4 hu => ?_
    have cu := dpS_cell hu
    generalize installR a1.dbs[m.2.1.toNat] m.2.2 = R at *
    obtain ⟨db2, code⟩ := R
    try dsimp only at *
    unfold afterN at h
    try dsimp only at h
    simp
    intro o4 ho4
    rw [aSt_at (upd_eq H4 o4 _)]
    have hs45 : Abs.sub Hn (upd H4 o4 ⟨1, [[u]]⟩) := sub_trans hu.sub (sub_fresh ho4)
    obtain ⟨H4', hu2, hs4⟩ := hu.shrink hdp.sub
    obtain ⟨q5, q6⟩ := DB.put (c := c) (r := m.2.1.toNat) hod hrr hu2 (sub_trans hs4 (sub_fresh (x := ⟨1, [[u]]⟩) ho4))
    have hrd2 := (dp_rebase0 (o := od) ⟨1, rws.set m.2.1.toNat [u]⟩ hu2 (by rw [upd_eq]; simp)).rd
    have nb2 := hbk _ _ q5
    have hne : o4 ≠ od := fun hh => by
      subst hh
      rw [hu.sub _ _ hbod] at ho4
      cases ho4
    have hb4 : (upd (upd H4 o4 ⟨1, [[u]]⟩) od ⟨1, rws.set m.2.1.toNat [u]⟩) o4 = some ⟨1, [[u]]⟩ := by rw [upd_off hne, upd_eq]
    simp [stz_eq, putCells, cu, aLd_at (hs45 _ _ nb.box), aLd_at (upd_eq H4 o4 _)]
    rw [idx_own (hs45 _ _ hbod) hmo.2.1.1 hr1]
    simp only [bnd_some]
    rw [row_sta (hs45 _ _ hbod) hrr cu]
    simp only [bnd_some]
    generalize upd (upd H4 o4 (⟨1, [[u]]⟩ : Ob)) od (⟨1, rws.set m.2.1.toNat [u]⟩ : Ob) = H51 at *
    generalize upd H4' od (⟨1, rws.set m.2.1.toNat [u]⟩ : Ob) = Hn2 at *
    obtain ⟨Z1, Z2, e5, d5, nw5⟩ := nb2.split
    have hZ : Abs.sub Hm Z2 := sub_trans e5.sub d5.sub
    have k400 := hok2.2.2.2.2.1
    have klost := hok2.2.2.2.2.2.1
    have k60 : a1.up.es.length ≤ 60 := hok2.1.2.1
    have hre : Rb false Z2 3 e (a1.up.es.map enEdge) := (e5.rb fun r hr => by
      obtain ⟨x, _, rfl⟩ := List.mem_map.1 hr
      rfl).mono d5.sub
    have hszm := lsa_small hlok
    have hszm' : m.2.2.links.length + m.2.2.stubs.length ≤ 16 := hszm
    refine ⟨fun z0 => ?_, fun z0 => ⟨fun z2 => ?_, fun z2 => ?_⟩⟩
    · rw [if_pos z0] at h
      refine C_s_l08Spread (b := c) (l := m.2.2) nw5 q6 hre ((lsaT c).mono hlr hZ) (by omega) k400 klost (by simp only; omega) fun H6 Hn6 w5 w6 => ?_
      obtain ⟨w7, nb7⟩ := NB.sends spread_fits e5 d5 w5
      exact net_end hsm nb7 w6 h
    · rw [if_neg z0, if_pos z2] at h
      simp [aLd_at hb4, cu]
      refine C_s_FindLsa (b := c) (c := c) ((dbT c).mono hrd2 q6) (db_small hdo2) fun us H6 hus6 => ?_
      have hus0 := hus6
      obtain ⟨lq, sq, rfl, u1, u2⟩ := hus0.rd
      have hqc := lsa_cell u1 u2
      simp [aExtract, stz_eq, putCells, hqc]
      obtain ⟨Yc, Hn6, v1, nb6, v3⟩ := nb2.under q6 hus6
      obtain ⟨X1, X2, e6, d6, nw6⟩ := nb6.split
      have hfs : szl (findR db2 m.2.2.origin).1 ≤ 16 := findR_small ..
      have hfs' : (findR db2 m.2.2.origin).1.links.length + (findR db2 m.2.2.origin).1.stubs.length ≤ 16 := hfs
      refine C_s_l08Send (b := c) (l := (findR db2 m.2.2.origin).1) nw6 v3 hus6.rd (by omega) k400 klost fun H7 Hn7 w5 w6 => ?_
      obtain ⟨w7, nb7⟩ := NB.sends (send_fits ..) e6 d6 w5
      exact net_end (sub_trans hsm v1.sub) nb7 w6 h
    · rw [if_neg z0, if_neg z2] at h
      exact net_end hsm nb2 q6 h
end Go.Proofs.YtohicpepcjgnaaaGreat
