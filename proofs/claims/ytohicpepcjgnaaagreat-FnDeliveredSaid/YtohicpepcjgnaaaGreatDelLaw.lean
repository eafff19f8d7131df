/-
The law FnDelivered.
-/
import Derived.Test.YtohicpepcjgnaaaGreatDrM
import Derived.Test.YtohicpepcjgnaaaGreatDoubleC
import Derived.Test.YtohicpepcjgnaaaGreatLawAid
set_option linter.all false
namespace Go.Proofs.YtohicpepcjgnaaaGreat
open Go Go.Abs Go.Proofs

theorem C_w_l08Draw {v : V} {bs : List (List V)} {H : Heap} {K : V → Heap → Prop} (hv : Rd H 1 v bs) (hb : Bs bs) (hl : bs.length ≤ 9223372036854775807) (hcell : cellsOf v = [v] ∧ cellOk v = true ∧ notAny v = true)
    (h : ∀ o a r H', IsCur H' o → Abs.sub H (Abs.del H' o) → a.wires.length ≤ 395 → bNet a → Rq (netT false) H' o a r → K (.tup [.ptr o 0 0, .agg r]) H') : ACalls P n_s_l08Draw [v] H K := by
  apply W_s_l08Draw
  unfold F_s_l08Draw
  refine C_s_l01New hv hb hl hcell fun o H1 ho hc1 hs1 => ?_
  have low : ∀ {H'}, St H1 o H' → Abs.sub H (Abs.del H' o) := fun {H'} hst => sub_trans (fun i x hi => by
    unfold Abs.del
    rw [if_neg (by rintro rfl; rw [ho] at hi; cases hi)]
    exact hs1 _ _ hi) (St.del hst)
  refine C_s_l01Size (hv.mono hs1) (by omega) hl fun sz hz0 hz1 => ?_
  refine C_s_l01Below hc1 fun k H2 k0 k1 k2 s2 => ?_
  have hk : k ≤ 4 := by by_cases e : 0 < sz <;> omega
  have rv : Rd (Abs.del H2 o) 1 v bs := hv.mono (low s2)
  simp
  rw [i64_in (n := 1 + k) (by omega) (by omega)]
  refine C_s_l01Size (rv.mono del_sub) (by omega) hl fun sz2 hz2 hz3 => ?_
  refine C_s_l01Below s2.1 fun k' H3 k3 k4 k5 s3 => ?_
  have hk' : k' ≤ 29 := by by_cases e : 0 < sz2 <;> omega
  refine C_w_l08DrawNet s3.1 (by omega) hk' fun i D a r H4 hi cap hd => ?_
  have hd4 := Dq.from (s2.trans s3) hd
  have hws : a.wires.length ≤ 394 := Nat.le_trans cap.ws (roof_all i hi D cap.le)
  obtain ⟨e, d, w, rfl, c1, c2, c3, _⟩ := dq_net hd4
  simp [stz_eq, putCells, c1.1, c2.1, c3.1, c1.2, c2.2, c3.2]
  refine C_s_l01Once hd4.cur fun q H5 s5 => ?_
  have hd5 := hd4.step s5
  simp
  refine ⟨fun _ => ?_, fun _ => ⟨⟨noHeap, noHeap_sub _⟩, Ret.of (h o a _ H5 hd5.cur (low hd5.st) (by omega) cap.sz hd5.rq)⟩⟩
  refine C_w_l08Bend hd5 (small_of cap.fl.ok) hws fun a' r' H6 hw' hb' hd6 => ?_
  obtain ⟨e', d', w', rfl, c1', c2', c3', _⟩ := dq_net hd6
  simp [stz_eq, putCells, c1'.1, c2'.1, c3'.1, c1'.2, c2'.2, c3'.2]
  exact ⟨⟨noHeap, noHeap_sub _⟩, Ret.of (h o a' _ H6 hd6.cur (low hd6.st) hw' hb' hd6.rq)⟩
theorem C_w_DrawDeliver {v : V} {bs : List (List V)} {H : Heap} {K : V → Heap → Prop} (hv : Rd H 1 v bs) (hb : Bs bs) (hl : bs.length ≤ 9223372036854775807) (hcell : cellsOf v = [v] ∧ cellOk v = true ∧ notAny v = true)
    (h : ∀ a r k H', a.wires.length ≤ 395 → bNet a → (netT false).rd H' a r → K (.tup [.agg r, .int .i64 k]) H') : ACalls P n_s_DrawDeliver [v] H K := by
  apply W_s_DrawDeliver
  unfold F_s_DrawDeliver
  refine C_w_l08Draw hv hb hl hcell fun o a r H1 hc hs hw hbn hq => ?_
  have hq' := hq.rd
  obtain ⟨e, d, w, rfl, g1, g2, g3⟩ := hq'
  have cc := net_cell g1 g2 g3
  simp [stz_eq, putCells, cc.1.1, cc.2.1.1, cc.2.2.1, cc.1.2, cc.2.1.2, cc.2.2.2]
  refine ⟨noHeap, noHeap_sub _, ?_⟩
  refine C_w_l08DrawPlace hc hq.rd fun k H2 s2 => ⟨noHeap_sub _, ?_⟩
  skip
  exact Ret.of (h a _ k H2 hw hbn (hq.st s2).rd)
theorem C_i_CostOf {n x y : Int} {v : V} {es : List TEdge} {H : Heap} {K : V → Heap → Prop} (hv : Rd H 3 v (es.map enEdge)) (hg : graphOk n es) (h : K (.int .i64 (cost n es x y)) H) : ACalls P n_i_CostOf [vG n v, .int .i64 x, .int .i64 y] H K := by
  have hc := hv.cell
  apply W_i_CostOf
  unfold F_i_CostOf
  simp [hc]
  refine C_i_GraphOk hv ?_
  simp [hg]
  exact C_i_Graph_cost hv hg (Ret.of h)
theorem C_k_Newer {b b' : Bool} {x y : TLsa} {us vs : List V} {H : Heap} {K : V → Heap → Prop} (hu : (lsaT b).rd H x us) (hv : (lsaT b').rd H y vs) (hx : lsaOk x) (hy : lsaOk y) (ho : x.origin = y.origin) (h : K (.int .i64 (newerR x y)) H) : ACalls P n_i_Newer [.agg us, .agg vs] H K := by
  have hu' := hu
  have hv' := hv
  obtain ⟨l, s, rfl, g1, g2⟩ := hu
  have hcu := lsa_cell g1 g2
  obtain ⟨l', s', rfl, g1', g2'⟩ := hv
  have hcv := lsa_cell g1' g2'
  have a1 := hx.2.2.2.1
  have a2 := hx.2.2.2.2.1
  have b1 := hy.2.2.2.1
  have b2 := hy.2.2.2.2.1
  apply W_i_Newer
  unfold F_i_Newer
  simp [hcu, hcv]
  refine C_i_LsaOk hu' (by omega) ?_
  simp [hx]
  refine C_i_LsaOk hv' (by omega) ?_
  simp [hy]
  exact ⟨fun q => absurd ho q, fun _ => C_i_newer hu' hv' hx hy (Ret.of h)⟩
theorem C_k_DbSum {b : Bool} {xs : List TLsa} {w : V} {H : Heap} {K : V → Heap → Prop} (hv : (dbT b).rd H xs [w]) (hd : dbOk xs) (h : K (.int .i64 (dbSum xs)) H) : ACalls P n_i_DbSum [.agg [w]] H K := by
  have cw := rdS_cell hv
  apply W_i_DbSum
  unfold F_i_DbSum
  simp [cw]
  have := dbOk_sz hd
  refine C_i_DbOk hv (by omega) ?_
  simp [hd]
  exact C_i_Db_sum hv hd (Ret.of h)
theorem newer_same (l : TLsa) : newerR l l = 0 := by unfold newerR; simp
theorem deliver_dbs {a : TNet} {k : Nat} {m : TMsg} (hk : a.wires[k]? = some m) (hc : ¬ cost a.up.n a.up.es m.1 m.2.1 = 1000000) : (deliverN a k).dbs = a.dbs.set m.2.1.toNat (installR (a.dbs.getD m.2.1.toNat []) m.2.2).1 := by
  unfold deliverN
  rw [hk]
  simp only
  unfold takeN
  rw [if_neg hc]
  unfold afterN
  split
  · exact (spreadL_fits ..).dbs
  · split
    · exact (send_fits ..).dbs
    · rfl
theorem deliver_len {a : TNet} {k : Nat} : (deliverN a k).dbs.length = a.dbs.length := by
  unfold deliverN
  cases hk : a.wires[k]? with
  | none => rfl
  | some m =>
    simp only
    unfold takeN
    split
    · rfl
    · unfold afterN
      split
      · unfold spreadN; rw [(spreadL_fits ..).dbs]; simp
      · split
        · rw [(send_fits ..).dbs]; simp
        · simp
theorem inst_find {xs : List TLsa} {l : TLsa} (hd : dbOk xs) (hl : lsaOk l) (ha : l.age < 60) : ∃ r, findR (installR xs l).1 l.origin = (r, true) ∧ newerR l r ≠ 1 := by
  rw [inst_of hd hl]
  by_cases h : offerR xs l = 0
  · rw [if_pos h]
    exact ⟨l, find_put hd hl, by rw [newer_same]; omega⟩
  · rw [if_neg h]
    unfold offerR at h
    split at h
    · rename_i hf
      refine ⟨(findR xs l.origin).1, by rw [← hf], fun q => ?_⟩
      rw [if_pos q] at h
      exact h rfl
    · rw [if_neg (by omega)] at h
      exact absurd rfl h
theorem deliver_find {a : TNet} {k : Nat} {m : TMsg} (h : netOk a) (hk : a.wires[k]? = some m) (hc : cost a.up.n a.up.es m.1 m.2.1 < 1000000) (ha : m.2.2.age < 60) (hm : m.2.1.toNat < (deliverN a k).dbs.length) : ∃ r, findR (deliverN a k).dbs[m.2.1.toNat] m.2.2.origin = (r, true) ∧ newerR m.2.2 r ≠ 1 := by
  have hmo : msgOk a.up.n m := by
    obtain ⟨i, hi, rfl⟩ := List.mem_iff_getElem.1 (List.mem_of_getElem? hk)
    exact h.2.2.2.2.2.2.2 i hi
  obtain ⟨n1, n2, n3, hl⟩ := hmo
  obtain ⟨k1, k2⟩ := dbOk_at h n2
  have e : (deliverN a k).dbs[m.2.1.toNat] = (installR (db a m.2.1) m.2.2).1 := by
    have := deliver_dbs hk (by omega)
    simp only [this, List.getElem_set_self]
    rfl
  rw [e]
  exact inst_find k1 hl ha
def InvBs2 (n : Nat) (H : Heap) (m : Nat) (ys : List V) (Hc : Heap) : Prop := ∃ i : Nat, i ≤ n ∧ ys = [.int .i64 (i : Nat)] ∧ m = n - i ∧ Hc = H
set_option maxHeartbeats 4000000 in
theorem C_l_FnDelivered {v : V} {bs : List (List V)} {H : Heap} {K : V → Heap → Prop} (hv : Rd H 1 v bs) (hb : Bs bs) (hl : bs.length ≤ 9223372036854775807) (hcell : cellsOf v = [v] ∧ cellOk v = true ∧ notAny v = true) (h : ∀ H', K (.bool true) H') : ACalls P n_l_FnDelivered [v] H K := by
  apply W_l_FnDelivered
  unfold F_l_FnDelivered
  refine C_l_big hv.len ?_
  simp
  refine ⟨fun _ => Ret.of (h _), fun _ => ?_⟩
  refine C_w_DrawDeliver hv hb hl hcell fun a r k H1 hw hbn hr => ?_
  have hr' := hr
  obtain ⟨e, d, w, rfl, g1, g2, g3⟩ := hr'
  have cc := net_cell g1 g2 g3
  have nd := rdS_len g2
  have nw := rdS_len g3
  simp [stz_eq, putCells, cc.1.1, cc.2.1.1, cc.2.2.1, cc.1.2, cc.2.1.2, cc.2.2.2]
  refine C_s_Deliver (c := false) hr hbn fun us2 H2 h2 => ?_
  have r2 := h2.rd
  obtain ⟨e2, d2, w2, rfl, p1, p2, p3⟩ := r2
  have cc2 := net_cell p1 p2 p3
  have nw2 := rdS_len p3
  simp [stz_eq, putCells, cc2.1.1, cc2.2.1.1, cc2.2.2.1, cc2.1.2, cc2.2.1.2, cc2.2.2.2]
  refine C_i_Deliver (c := false) ((netT false).mono hr h2.sub) hbn fun us3 H3 h3 => ?_
  have r3 := h3.rd
  have r3' := r3
  obtain ⟨e3, d3, w3, rfl, p1', p2', p3'⟩ := r3'
  have cc3 := net_cell p1' p2' p3'
  have nw3 := rdS_len p3'
  have nd3 := rdS_len p2'
  simp [stz_eq, putCells, cc3.1.1, cc3.2.1.1, cc3.2.2.1, cc3.1.2, cc3.2.1.2, cc3.2.2.2, nw2, nw3]
  refine ⟨fun _ Hc => Hc = H3, Shr.of rfl, ?_⟩
  rintro zs Hc rfl
  have s13 := sub_trans h2.sub h3.sub
  by_cases hg : netOk a ∧ 0 ≤ k ∧ k ≤ (a.wires.length : Int) - 1
  rotate_left
  · have : (deliverR a k).2 = false := by unfold deliverR; rw [if_neg hg]
    simp [this]
    exact Ret.of (h _)
  have ed : deliverR a k = (deliverN a k.toNat, true) := by unfold deliverR; rw [if_pos hg]
  rw [ed] at p1' p2' p3' nw3 nd3 r3 ⊢
  simp only at p1' p2' p3' nw3 nd3 r3
  simp
  obtain ⟨ok, k0, k1⟩ := hg
  have kn : k.toNat < a.wires.length := by omega
  refine rdS_idx ((wiresT false).mono g3 s13) k0 kn fun p row hp hrw => ?_
  rw [hp.ld]
  obtain ⟨rl, rfl, hlr⟩ := hrw
  have hlr' := hlr
  obtain ⟨l1, l2, rfl, q1, q2⟩ := hlr'
  have hcl := lsa_cell q1 q2
  simp [stz_eq, putCells, hcl.1.1, hcl.1.2, hcl.2.1, hcl.2.2]
  have hk' : a.wires[k.toNat]? = some a.wires[k.toNat] := List.getElem?_eq_getElem kn
  generalize hm : a.wires[k.toNat] = m at *
  have hmo : msgOk a.up.n m := by
    have := ok.2.2.2.2.2.2.2 k.toNat kn
    rw [hm] at this
    exact this
  obtain ⟨n1, n2, n3, hlok⟩ := hmo
  have hn2 : m.2.1.toNat < (deliverN a k.toNat).dbs.length := by
    rw [deliver_len]
    exact (dbOk_at ok n2).2
  refine rdS_idx p2' n2.1 hn2 fun p row hp hrw => ?_
  rw [hp.ld]
  have hrw' := hrw
  obtain ⟨w4, rows4, rfl, _, _⟩ := hrw'
  simp
  have okd := (netOk_deliver (k := k.toNat) ok).2.2.2.2.2.2.1 _ hn2
  have sz4 := dbOk_sz okd
  refine C_i_FindLsa (c := false) hrw (by omega) fun us5 H5 h5 => ?_
  have r5 := h5.rd
  have r5' := r5
  obtain ⟨l5, s5, rfl, t1, t2⟩ := r5'
  have hc5 := lsa_cell t1 t2
  simp
  intro o43 ho43
  rw [aSt_at (upd_eq _ _ _)]
  simp [stz_eq, putCells, hc5.1.1, hc5.1.2, hc5.2.1, hc5.2.2]
  have sH : Abs.sub Hc (upd H5 o43 ⟨5, [lsaRow (findR (deliverN a k.toNat).dbs[m.2.1.toNat] m.2.2.origin).1 l5 s5]⟩) := sub_trans h5.sub (sub_fresh ho43)
  generalize hH44 : upd H5 o43 ⟨5, [lsaRow (findR (deliverN a k.toNat).dbs[m.2.1.toNat] m.2.2.origin).1 l5 s5]⟩ = H44 at *
  have h44 : H44 o43 = some ⟨5, [lsaRow (findR (deliverN a k.toNat).dbs[m.2.1.toNat] m.2.2.origin).1 l5 s5]⟩ := by rw [← hH44]; exact upd_eq _ _ _
  have s544 : Abs.sub H5 H44 := by rw [← hH44]; exact sub_fresh ho43
  refine ⟨fun _ Hz => Abs.sub Hc Hz, ?_, ?_⟩
  · refine C_i_CostOf (g1.1.mono (sub_trans s13 sH)) ok.1 ?_
    simp
    have go : Shr (fun Hz => Abs.sub Hc Hz) H44 := Shr.of sH
    refine ⟨fun hc1 => ⟨fun ha1 => ?_, fun _ => go⟩, fun _ => go⟩
    obtain ⟨x, hf, hne⟩ := deliver_find ok hk' hc1 ha1 hn2
    simp only [hf] at r5 h44 ⊢
    have hx := findR_ok okd (o := m.2.2.origin) (by rw [hf])
    rw [hf] at hx
    simp
    rw [aLd_at h44]
    simp
    refine C_k_Newer ((lsaT false).mono hlr sH) ((lsaT false).mono r5 s544) hlok hx.1 hx.2.symm ?_
    simp [hne]
    exact go
  rintro zs Hd hsd
  have hsd : Abs.sub Hc Hd := hsd
  have sd := sub_trans s13 hsd
  have el : loseR a k = (offN a k.toNat, true) := by unfold loseR; rw [if_pos ⟨ok, k0, k1⟩]
  have eo : doubleR a k = (sendN a m.1 m.2.1 m.2.2, true) := by unfold doubleR; rw [if_pos ⟨ok, k0, k1⟩, hk']
  refine C_i_Lose (c := false) ((netT false).mono hr sd) hbn fun us6 H6 h6 => ?_
  rw [el] at h6 ⊢
  have r6 := h6.rd
  obtain ⟨e6, d6, w6, rfl, x1, x2, x3⟩ := r6
  have cc6 := net_cell x1 x2 x3
  have nw6 := rdS_len x3
  have nd6 := rdS_len x2
  simp [stz_eq, putCells, cc6.1.1, cc6.2.1.1, cc6.2.2.1, cc6.1.2, cc6.2.1.2, cc6.2.2.2]
  refine C_i_Double (c := false) ((netT false).mono hr (sub_trans sd h6.sub)) hbn fun us7 H7 h7 => ?_
  rw [eo] at h7 ⊢
  have r7 := h7.rd
  obtain ⟨e7, d7, w7, rfl, y1, y2, y3⟩ := r7
  have cc7 := net_cell y1 y2 y3
  have nw7 := rdS_len y3
  have es : sendN a m.1 m.2.1 m.2.2 = ⟨a.up, a.dbs, a.wires ++ [(m.1, m.2.1, m.2.2)], a.lost⟩ := by unfold sendN; rw [if_pos (by omega)]
  rw [es] at nw7 ⊢
  simp only [List.length_append, List.length_singleton] at nw7
  have lo : (offN a k.toNat).wires.length = a.wires.length - 1 := by simp [List.length_eraseIdx, kn]
  simp [stz_eq, putCells, cc7.1.1, cc7.2.1.1, cc7.2.2.1, cc7.1.2, cc7.2.1.2, cc7.2.2.2, nd, nw, nd6, nw6, nw7, lo]
  rw [i64_in (n := (a.wires.length : Int) - 1) (by omega) (by omega), i64_in (n := (a.wires.length : Int) + 1) (by omega) (by omega)]
  refine ⟨fun _ Hz => Hz = H7, ⟨fun q => by omega, fun _ => ⟨fun q => absurd rfl q, fun _ => Shr.of rfl⟩⟩, ?_⟩
  rintro zs Hz rfl
  have dlen := ok.2.2.2.1
  have n6 := ok.2.1
  refine ⟨InvBs2 a.dbs.length Hz, ⟨a.dbs.length, Shr.of ⟨0, by omega, rfl, by omega, rfl⟩⟩, ?_⟩
  rintro mm zs Hy ⟨i, hi, rfl, rfl, rfl⟩
  simp
  refine ⟨fun hlt => ?_, fun _ => Ret.of (h _)⟩
  have hdb := ok.2.2.2.2.2.2.1 i hlt
  refine ⟨Hy, Abs.sub_refl _, ?_⟩
  refine rdS_idx ((dbsT false).mono x2 h7.sub) (by omega) (by simpa using hlt) fun p row hp hrw => ?_
  simp only [Int.toNat_natCast] at hrw
  rw [hp.ld]
  have hA := hrw
  obtain ⟨w8, rows8, rfl, _, _⟩ := hrw
  simp
  refine rdS_idx ((dbsT false).mono g2 (sub_trans sd (sub_trans h6.sub h7.sub))) (by omega) (by simpa using hlt) fun p row hp hrw => ?_
  simp only [Int.toNat_natCast] at hrw
  rw [hp.ld]
  have hB := hrw
  obtain ⟨w9, rows9, rfl, _, _⟩ := hrw
  simp
  refine C_k_DbSum hA hdb ⟨Abs.sub_refl _, ?_⟩
  refine C_s_DbSum hB hdb ⟨Abs.sub_refl _, ?_⟩
  simp
  rw [i64_in (n := (i : Int) + 1) (by omega) (by omega)]
  exact ⟨a.dbs.length - (i + 1), by omega, Shr.of ⟨i + 1, by omega, by simp, rfl, rfl⟩⟩

end Go.Proofs.YtohicpepcjgnaaaGreat
