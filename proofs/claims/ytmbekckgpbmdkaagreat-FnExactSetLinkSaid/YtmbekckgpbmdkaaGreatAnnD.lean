/-
Contracts: Announce, of both sides.
-/
import Derived.Test.YtmbekckgpbmdkaaGreatAnnC
set_option linter.all false
namespace Go.Proofs.YtmbekckgpbmdkaaGreat
open Go Go.Abs Go.Proofs

/-- The net is copied and handed out. -/
theorem own_end {t : Bool} {a : TNet} {vs : List V} {H H2 : Heap} {K : V → Heap → Prop} (hv : (netT false).rd H a vs) (hl : bNet a) (hs : Abs.sub H H2) (h : ∀ us H', Dp (netT false) H a us H' → K (.tup [.agg us, .bool t]) H') :
    ACalls P n_i_ownNet [.agg vs] H2 fun v12 H13 =>
      bnd (stz 5 [(.int .i64 0), .nils, .nils, .nils, (.int .i64 0)] 0 v12) fun c14 =>
      bnd (if 5 ≤ c14.length then some (V.agg (List.take 5 c14)) else none) fun t15 =>
      Ret K (.tup [t15, (.bool t)]) H13 := by
  refine C_i_ownNet (c := false) ((netT false).mono hv hs) hl fun us H3 hus => ?_
  obtain ⟨Hy, y1, y2⟩ := hus.shrink hs
  obtain ⟨e6, d6, w6, _, _, rfl, p1, p2, p3⟩ := net_dp hus
  have c6 := And.intro p1.cell (And.intro (dpS_cell p2) (dpS_cell p3))
  simp [stz_eq, putCells, c6]
  exact Ret.shr (h _ _ y1) rfl y2
theorem copy_end {b c t : Bool} {a : TNet} {vs : List V} {H H2 : Heap} {K : V → Heap → Prop} (hv : (netT b).rd H a vs) (hl : bNet a) (hs : Abs.sub H H2) (h : ∀ us H', Dp (netT c) H a us H' → K (.tup [.agg us, .bool t]) H') :
    ACalls P n_s_l08Copy [.agg vs] H2 fun v12 H13 =>
      bnd (stz 5 [(.int .i64 0), .nils, .nils, .nils, (.int .i64 0)] 0 v12) fun c14 =>
      bnd (if 5 ≤ c14.length then some (V.agg (List.take 5 c14)) else none) fun t15 =>
      Ret K (.tup [t15, (.bool t)]) H13 := by
  refine C_s_l08Copy (c := c) ((netT b).mono hv hs) hl fun us H3 hus => ?_
  obtain ⟨Hy, y1, y2⟩ := hus.shrink hs
  obtain ⟨e6, d6, w6, _, _, rfl, p1, p2, p3⟩ := net_dp hus
  have c6 := And.intro p1.cell (And.intro (dpS_cell p2) (dpS_cell p3))
  simp [stz_eq, putCells, c6]
  exact Ret.shr (h _ _ y1) rfl y2
set_option maxHeartbeats 2000000 in
theorem C_i_Announce {c : Bool} {a : TNet} {vs : List V} {x : Int} {H : Heap} {K : V → Heap → Prop} (hv : (netT false).rd H a vs) (hl : bNet a)
    (h : ∀ us H', Dp (netT false) H (announceR a x).1 us H' → K (.tup [.agg us, .bool (announceR a x).2]) H') : ACalls P n_i_Announce [.agg vs, .int .i64 x] H K := by
  have hv' := hv
  obtain ⟨e0, d0, w0, rfl, g1, g2, g3⟩ := hv
  have hc := net_cell g1 g2 g3
  apply W_i_Announce
  unfold F_i_Announce
  simp [hc]
  refine C_i_ownNet (c := false) hv' hl fun us H3 hus => ?_
  have hus' := hus
  obtain ⟨e, d, w, H1, H2, rfl, h1, h2, h3⟩ := net_dp hus
  have ce := h1.cell
  have cd := dpS_cell h2
  have cw := dpS_cell h3
  intro o ho
  rw [aSt_at (upd_eq H3 o _)]
  simp [stz_eq, putCells, ce, cd, cw]
  have nb := NB.of hus' ho
  generalize upd H3 o ⟨5, [netRow a e d w]⟩ = Hn at *
  have hs : Abs.sub H Hn := nb.sub
  refine C_i_NetOk ((netT false).mono hv' hs) hl ?_
  simp
  unfold announceR at h
  have no : ¬ (netOk a ∧ (0 ≤ x ∧ x < a.up.n) ∧ lsaOk (ownL a x)) → ∀ us H', Dp (netT false) H a us H' → K (.tup [.agg us, .bool false]) H' := fun q => by
    rw [if_neg q] at h
    exact h
  refine ⟨fun q => own_end hv' hl hs (no fun hh => q hh.1), fun q => ?_⟩
  refine C_i_Graph_isNode (g1.1.mono hs) ⟨q.1.1.1, by have := q.2.1; omega⟩ ?_
  simp
  refine ⟨fun q2 => own_end hv' hl hs (no fun hh => by have := hh.2.1; omega), fun q2 q3 => ?_⟩
  refine C_p_i_Net_announce nb (Abs.sub_refl _) q ⟨q2, q3⟩ (fun hl0 Y e' d' w' H' Hn' f1 f2 f3 => ?_) fun hl0 H' hs' => ?_
  · rw [if_pos ⟨q, ⟨q2, q3⟩, hl0⟩] at h
    simp
    exact net_end f1 f2 f3 h
  · simp
    exact own_end hv' hl (sub_trans hs hs') (no fun hh => hl0 hh.2.2)
abbrev zrow : List V := [.int .i64 0, .nils, .nils, .nils, .int .i64 0]
def JA2 (r : List V) (x s : Int) (v : V) (H : Heap) (ys : List V) (Hc : Heap) : Prop := ys = [.box r, .box zrow, .box (annRow x s .nils v)] ∧ Hc = H
def InvAs (r : List V) (x s : Int) (v : V) (es : List TEdge) (H : Heap) (m : Nat) (ys : List V) (Hc : Heap) : Prop :=
  ∃ (i : Nat) (u : V), i ≤ es.length ∧ ys = [.box r, .box zrow, .box (annRow x s u v), .int .i64 (i : Nat)] ∧ m = es.length - i ∧ Held H 2 ((linksOf x (es.take i)).map enLink) u Hc
set_option maxHeartbeats 4000000 in
theorem C_s_Announce {b c : Bool} {a : TNet} {vs : List V} {x : Int} {H : Heap} {K : V → Heap → Prop} (hv : (netT b).rd H a vs) (hl : bNet a)
    (h : ∀ us H', Dp (netT c) H (announceR a x).1 us H' → K (.tup [.agg us, .bool (announceR a x).2]) H') : ACalls P n_s_Announce [.agg vs, .int .i64 x] H K := by
  have hv' := hv
  obtain ⟨e0, d0, w0, rfl, g1, g2, g3⟩ := hv
  have hc := net_cell g1 g2 g3
  apply W_s_Announce
  unfold F_s_Announce
  simp [hc]
  refine C_s_NetOk hv' hl ?_
  simp
  unfold announceR at h
  have no : ¬ (netOk a ∧ (0 ≤ x ∧ x < a.up.n) ∧ lsaOk (ownL a x)) → ∀ us H', Dp (netT c) H a us H' → K (.tup [.agg us, .bool false]) H' := fun q => by
    rw [if_neg q] at h
    exact h
  refine ⟨fun q => copy_end hv' hl (Abs.sub_refl _) (no fun hh => q hh.1), fun hok => ?_⟩
  refine C_s_l03Node g1.1 ⟨hok.1.1.1, by have := hok.2.1; omega⟩ ?_
  simp
  refine ⟨fun q2 => copy_end hv' hl (Abs.sub_refl _) (no fun hh => by have := hh.2.1; omega), fun q2 q3 => ?_⟩
  have hx : 0 ≤ x ∧ x < a.up.n := ⟨q2, q3⟩
  have hn6 := hok.2.1
  have k60 : a.up.es.length ≤ 60 := hok.1.2.1
  have hiff := ownL_ok hok hx
  obtain ⟨hr1, hdb1, hdo1⟩ := db_at hok hx
  obtain ⟨sq, hsq⟩ : ∃ sq, sq = nextSeq (a.dbs.getD x.toNat []) x := ⟨_, rfl⟩
  have hown : ownL a x = ⟨x, sq, 0, linksOf x a.up.es, [(256 * x, 8, 1)]⟩ := by rw [hsq]; rfl
  rw [← hsq] at hiff
  rw [hdb1] at hsq
  simp [fillZ, bsl_one]
  rw [i64_in (n := 256 * x) (by omega) (by omega)]
  intro o5 ho5
  have hs5 : Abs.sub H (upd H o5 ⟨3, [[.int .i64 (256 * x), .int .i64 8, .int .i64 1]]⟩) := sub_fresh ho5
  have hst : Held H 3 ([((256 * x, 8, 1) : TStub)].map enStub) (.slice o5 0 1 (some 1)) (upd H o5 ⟨3, [[.int .i64 (256 * x), .int .i64 8, .int .i64 1]]⟩) := Held.full ho5 rfl
  simp [stz_eq, putCells]
  generalize upd H o5 ⟨3, [[.int .i64 (256 * x), .int .i64 8, .int .i64 1]]⟩ = H5 at *
  refine ⟨JA2 (netRow a e0 d0 w0) x sq (.slice o5 0 1 (some 1)) H5, ?_, ?_⟩
  · refine rdS_at g2 hs5 hx.1 hr1 fun p row hp hrow => ?_
    obtain ⟨vd, rws, rfl, hrd, hall⟩ := id hrow
    rw [hp.ld]
    have cvd := rdS_cell hrow
    simp [cvd]
    refine C_s_FindLsa (c := c) ((dbT b).mono hrow hs5) (db_small hdo1) fun us H6 hus6 => ?_
    have hus0 := hus6
    obtain ⟨lq, sq', rfl, u1, u2⟩ := hus0.rd
    have hqc := lsa_cell u1 u2
    unfold nextSeq at hsq
    simp [aExtract, stz_eq, putCells, hqc]
    have hsub5 : Abs.sub H5 H6 := hus6.sub
    refine ⟨fun q => ?_, fun q => ?_⟩
    · rw [if_pos q] at hsq
      have hseq := (findR_ok hdo1 q).1.2.1
      rw [i64_in (n := (findR a.dbs[x.toNat] x).1.seq + 1) (by omega) (by omega)]
      exact ⟨H5, hsub5, by rw [hsq], rfl⟩
    · rw [if_neg (by simp [q])] at hsq
      exact ⟨H5, hsub5, by rw [hsq], rfl⟩
  · rintro ys Hc ⟨rfl, rfl⟩
    refine ⟨InvAs (netRow a e0 d0 w0) x sq (.slice o5 0 1 (some 1)) a.up.es Hc, ⟨a.up.es.length, Shr.of ⟨0, .nils, by omega, rfl, by omega, by simpa [linksOf] using Held.nil⟩⟩, ?_⟩
    rintro m ys Hd ⟨i, u, hi, rfl, rfl, hu⟩
    have cu := hu.cell
    have hsd : Abs.sub H Hd := sub_trans hs5 hu.sub
    have hre := g1.1.mono hsd
    simp [hc, hre.len]
    refine ⟨fun hlt => ?_, fun hge => ?_⟩
    · have hgd : (a.up.es.map enEdge).getD i [] = enEdge a.up.es[i] := by simp [hlt]
      refine hre.idx (by omega) (by simpa using hlt) fun p hp => hp.fld fun q hq => ?_
      simp only [Int.toNat_natCast, hgd] at hq
      rw [hq.ld]
      simp
      rw [i64_in (n := (i : Int) + 1) (by omega) (by omega)]
      refine ⟨fun q => ?_, fun q => ?_⟩
      · refine hre.idx (by omega) (by simpa using hlt) fun p hp => hp.fld fun q5 hq => ?_
        simp only [Int.toNat_natCast, hgd] at hq
        rw [hq.ld]
        simp
        refine hre.idx (by omega) (by simpa using hlt) fun p hp => hp.fld fun q6 hq => ?_
        simp only [Int.toNat_natCast, hgd] at hq
        rw [hq.ld]
        simp [cu, bsl_one]
        intro o7 ho7
        have hll := links_le x (a.up.es.take i)
        simp at hll
        refine hu.append (sub_fresh ho7) (by simp) (by simp; omega) fun v' H' H'' ho' hs' => ?_
        have cv := ho'.cell
        simp [stz_eq, putCells, cv]
        refine ⟨a.up.es.length - (i + 1), by omega, H'', hs', i + 1, v', by omega, by simp, rfl, ?_⟩
        rw [links_yes hlt q, List.map_append]
        exact ho'
      · refine ⟨a.up.es.length - (i + 1), by omega, Shr.of ⟨i + 1, u, by omega, by simp, rfl, ?_⟩⟩
        rw [links_no hlt q]
        exact hu
    · have : i = a.up.es.length := by omega
      subst this
      rw [List.take_length] at hu
      obtain ⟨H1', r1, r2⟩ := Held.swap hst hu
      have hdp : Dp (lsaT c) H (ownL a x) (annRow x sq u (.slice o5 0 1 (some 1))) Hd := by
        have := Dp.lsa (b := c) (a := ownL a x) (l := u) (s := .slice o5 0 1 (some 1)) (by rw [hown]; exact r1) (by rw [hown]; exact r2)
        rw [hown] at this
        rw [hown]
        exact this
      have hl16 : (ownL a x).links.length ≤ 1048576 ∧ (ownL a x).stubs.length ≤ 1048576 := by
        have := links_le x a.up.es
        rw [hown]
        simp
        omega
      refine C_s_LsaOk (b := c) hdp.rd ?_
      simp
      refine ⟨fun q => copy_end hv' hl hsd (no fun hh => q hh.2.2), fun hlok => ?_⟩
      rw [if_pos ⟨hok, hx, hlok⟩] at h
      refine C_s_l08Copy (c := c) ((netT b).mono hv' hsd) hl fun us H6 hus => ?_
      have hus' := hus
      obtain ⟨e, d, w, H1, H2, rfl, h1, h2, h3⟩ := net_dp hus
      have ce := h1.cell
      have cd := dpS_cell h2
      have cw := dpS_cell h3
      intro o ho
      rw [aSt_at (upd_eq H6 o _)]
      simp [stz_eq, putCells, ce, cd, cw, aField_box]
      have nb := NB.of hus' ho
      generalize upd H6 o ⟨5, [netRow a e d w]⟩ = Hn at *
      obtain ⟨od, cap, Yw, rws, rfl, hrl, hdb, hsy, hbk⟩ := nb.elem hr1
      refine ⟨Hn, Abs.sub_refl _, ?_⟩
      simp [aLd_at nb.box]
      rw [hdb.pt (Abs.sub_refl _) hx.1 hr1]
      obtain ⟨v1, hod, hrr, hdpd⟩ := hdb
      have c1 := dpS_cell hdpd
      have hbod : Hn od = some ⟨1, rws.set x.toNat [v1]⟩ := hdpd.sub _ _ (upd_eq _ _ _)
      simp [row_ld hbod hrr, c1]
      refine C_s_Install (b := c) (b' := c) (c := c) hdpd.rd ((lsaT c).mono hdp.rd nb.sub) (db_small hdo1) fun ui H4 hui => ⟨hui.sub, ?_⟩
      have cui := dpS_cell hui
      have hok2 : netOk ⟨a.up, a.dbs.set x.toNat (installR a.dbs[x.toNat] (ownL a x)).1, a.wires, a.lost⟩ := netOk_db hok (install_ok hdo1)
      simp [aExtract]
      refine ⟨noHeap, none_sub _, ?_⟩
      have hbod4 := hui.sub _ _ hbod
      obtain ⟨H4', hu2, hs4⟩ := hui.shrink hdpd.sub
      obtain ⟨q5, q6⟩ := DB.put (c := c) (r := x.toNat) hod hrr hu2 hs4
      have nb2 := hbk _ _ q5
      rw [row_sta hbod4 hrr cui]
      simp only [bnd_some]
      refine ⟨none_sub _, ?_⟩
      obtain ⟨Z1, Z2, e5, d5, nw5⟩ := nb2.split
      have k400 := hok2.2.2.2.2.1
      have klost := hok2.2.2.2.2.2.1
      have hre2 : Rb false Z2 3 e (a.up.es.map enEdge) := (e5.rb fun r hr => by
        obtain ⟨x, _, rfl⟩ := List.mem_map.1 hr
        rfl).mono d5.sub
      refine C_s_l08Spread (b := c) (l := ownL a x) nw5 q6 hre2 ((lsaT c).mono hdp.rd (sub_trans e5.sub d5.sub)) hl16 k400 klost (by simp only; omega) fun H7 Hn7 w5 w6 => ?_
      obtain ⟨w7, nb7⟩ := NB.sends spread_fits e5 d5 w5
      have hnm : announceN a x = spreadN ⟨a.up, a.dbs.set x.toNat (installR a.dbs[x.toNat] (ownL a x)).1, a.wires, a.lost⟩ x (-1) (ownL a x) := by
        unfold announceN
        rw [hdb1]
      rw [← hnm] at nb7
      exact net_end hsd nb7 w6 h
end Go.Proofs.YtmbekckgpbmdkaaGreat
