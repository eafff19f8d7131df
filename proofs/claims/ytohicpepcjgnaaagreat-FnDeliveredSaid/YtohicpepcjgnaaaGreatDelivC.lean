/-
Contracts: a delivery in place.
-/
import Derived.Test.YtohicpepcjgnaaaGreatDelivP
set_option linter.all false
namespace Go.Proofs.YtohicpepcjgnaaaGreat
open Go Go.Abs Go.Proofs

/-- A message is taken out: what it holds, below; the other messages, above. -/
theorem wires_take {b : Bool} {xs : List TMsg} {u : V} {k : Nat} {H0 Ho : Heap} (hu : Dp (wiresT b) H0 xs [u] Ho) (hk : k < xs.length) :
    ∃ rows r He Hm, rows.length = xs.length ∧ (∀ x ∈ rows, x.length = 7) ∧ rows[k]? = some r ∧ Dp (msgT b) H0 xs[k] r He ∧ Held Hm 7 rows u Ho ∧
      ∀ v H'', Held Hm 7 (rows.eraseIdx k) v H'' → Dp (wiresT b) He (xs.eraseIdx k) [v] H'' := by
  obtain ⟨rows, A, e, B, hl, hw, o1, ⟨r, o2, o3⟩, o4, hc⟩ := dpS_open hu hk
  have hp : (A ++ e ++ B ++ [(⟨7, rows, u⟩ : Ent)]).Perm (e ++ (A ++ B ++ [(⟨7, rows, u⟩ : Ent)])) := perm_mid.trans List.perm_append_comm
  obtain ⟨He, c1, c2⟩ := Chain.append.1 (hc.perm hp)
  obtain ⟨Hm, c3, c4⟩ := Chain.append.1 c2
  refine ⟨rows, r, He, Hm, hl, hw, o2, ⟨e, o3, c1⟩, Chain.one.1 c4, fun v H'' q => ?_⟩
  refine ⟨_, ⟨v, rows.eraseIdx k, A ++ B, rfl, fun x hx => hw x (List.mem_of_mem_eraseIdx hx), ?_, rfl⟩, Chain.append.2 ⟨Hm, c3, Chain.one.2 q⟩⟩
  rw [List.eraseIdx_eq_take_drop_succ, List.eraseIdx_eq_take_drop_succ]
  exact o1.append o4
/-- What a delivery needs of a net without the message. -/
theorem NB.rows {c : Bool} {H0 H : Heap} {o : Nat} {a : TNet} {e d w : V} (h : NB c H0 o a e d w H) : Rd H 3 e (a.up.es.map enEdge) ∧ (dbsT c).rd H a.dbs [d] := by
  obtain ⟨H1, H2, q1, q2, q3⟩ := nb_parts h
  refine ⟨((q1.sl ?_).1.mono q2.sub).mono q3.sub, (dbsT c).mono q2.rd q3.sub⟩
  intro r hr
  obtain ⟨x, _, rfl⟩ := List.mem_map.1 hr
  rfl
theorem DB.box {c : Bool} {H1 H : Heap} {o r : Nat} {rows : List (List V)} {xs : List TLsa} (h : DB c H1 o rows r xs H) : ∃ v, H o = some ⟨1, rows.set r [v]⟩ ∧ r < rows.length ∧ (dbT c).rd H xs [v] ∧ okV v := by
  obtain ⟨v, _, h2, h3⟩ := h
  exact ⟨v, h3.sub _ _ (upd_eq _ _ _), h2, h3.rd, dpS_cell h3⟩
theorem NB.sends {c : Bool} {H0 Y1 Y2 H : Heap} {o : Nat} {a a' : TNet} {e d : V} (hf : Fits a a') (h1 : Held H0 3 (a.up.es.map enEdge) e Y1) (h2 : Dp (dbsT c) Y1 a.dbs [d] Y2) (h : NW c Y2 o a' e d H) : ∃ w, NB c H0 o a' e d w H := by
  rw [← hf.up] at h1
  rw [← hf.dbs] at h2
  exact NB.join h1 h2 h
theorem spread_fits {a : TNet} {x but : Int} {l : TLsa} : Fits a (spreadN a x but l) := spreadL_fits ..
theorem idx_own {H : Heap} {o n w : Nat} {cap : Option Nat} {k : IntKind} {i : Int} {rows : List (List V)} (ho : H o = some ⟨w, rows⟩) (h0 : 0 ≤ i) (h1 : i.toNat < n) : aIndex H w (.slice o 0 n cap) (.int k i) = some (.ptr o i.toNat 0) := by
  have : i < (n : Int) := by omega
  simp [aIndex, ho, h0, this]
theorem DB.pt {c : Bool} {H1 H Hb : Heap} {o r n : Nat} {cap : Option Nat} {k : IntKind} {i : Int} {rows : List (List V)} {xs : List TLsa} (h : DB c H1 o rows r xs H) (hs : Abs.sub H Hb) (h0 : 0 ≤ i) (h1 : i.toNat < n) : aIndex Hb 1 (.slice o 0 n cap) (.int k i) = some (.ptr o i.toNat 0) := by
  obtain ⟨v, h2, _⟩ := h.box
  exact idx_own (hs _ _ h2) h0 h1
theorem DB.ld {c : Bool} {H1 H : Heap} {o r : Nat} {rows : List (List V)} {xs : List TLsa} (h : DB c H1 o rows r xs H) : ∃ v, (dbT c).rd H xs [v] ∧ okV v ∧ ∀ Hb, Abs.sub H Hb → ∀ f, aLd f 1 Hb (.ptr o r 0) = partOf f 1 [v] 0 := by
  obtain ⟨v, h2, h3, h4, h5⟩ := h.box
  exact ⟨v, h4, h5, fun Hb hs f => row_ld (hs _ _ h2) h3 f⟩
set_option maxHeartbeats 4000000 in
theorem C_p_i_Net_deliver {a : TNet} {k o : Nat} {e d w : V} {H0 Hn H : Heap} {K : V → Heap → Prop} (hn : NB false H0 o a e d w Hn) (hs : Abs.sub Hn H) (hok : netOk a) (hk : k < a.wires.length)
    (h : ∀ Y e' d' w' H' Hn', Abs.sub H0 Y → NB false Y o (deliverN a k) e' d' w' Hn' → Abs.sub Hn' H' → K (.tup []) H') : ACalls P n_p_i_Net_deliver [.ptr o 0 0, .int .i64 (k : Nat)] H K := by
  have hbox0 := hs _ _ hn.box
  have cc0 := hn.cell
  obtain ⟨Y1, Y2, e1, d1, nw⟩ := hn.split
  obtain ⟨w', hbox, ho, h3, ce, cd, cw⟩ := nw.open
  have hbH := hs _ _ hbox
  obtain ⟨rows, r, He, Hm, hl, hw, hr, hm, hu, hback⟩ := wires_take h3 hk
  obtain ⟨Ye, rfl, hYe, hm'⟩ := dp_unbox hm ho
  obtain ⟨lr, rfl, hlr⟩ := msg_dp hm'
  have hmk : deliverN a k = takeN (offN a k) a.wires[k] := by
    unfold deliverN
    rw [List.getElem?_eq_getElem hk]
  rw [hmk] at h
  have hmo : msgOk a.up.n a.wires[k] := hok.2.2.2.2.2.2.2 k hk
  have hok1 : netOk (offN a k) := netOk_off hok
  have h400 := hok.2.2.2.2.1
  have hrg : rows.getD k [] = .int .i64 a.wires[k].1 :: .int .i64 a.wires[k].2.1 :: lr := by
    rw [List.getD_eq_getElem?_getD, hr]; rfl
  generalize a.wires[k] = m at *
  obtain ⟨lv, sv, rfl, g1, g2⟩ := id hlr.rd
  have hlc := lsa_cell g1 g2
  apply W_p_i_Net_deliver
  unfold F_p_i_Net_deliver
  simp [aNil, aField_box, aLd_at hbH, cw]
  refine ((hu.sl hw).1.mono hs).idx (by omega) (by omega) fun p hp => ?_
  simp only [Int.toNat_natCast, hrg] at hp
  rw [hp.ld]
  simp [stz_eq, putCells, hlc]
  rw [i64_in (n := (k : Int) + 1) (by omega) (by omega)]
  refine C_Delete_rows hu hs (by omega) (by omega) fun v H' H'' q1 q2 => ?_
  have hw2 := hback v H'' q1
  have cv := dpS_cell hw2
  have hb2 : H' o = some ⟨5, [netRow a e d w']⟩ := q2 _ _ (hw2.sub _ _ (upd_eq _ _ _))
  rw [aSt_at hb2]
  simp [stz_eq, putCells, cv]
  obtain ⟨nw2, hs2⟩ := NW.put (a' := offN a k) hYe ce cd hw2 q2
  obtain ⟨Ya, hm2, d2⟩ := d1.swap hm'
  obtain ⟨Yb, hm3, e2⟩ := Dp.heldOver e1 hm2
  obtain ⟨w1, nb1⟩ := NB.join (a := offN a k) e2 d2 nw2
  have hrdl := (msg_dp hm3)
  obtain ⟨lr3, er3, hl3⟩ := hrdl
  simp only [List.cons.injEq, true_and] at er3
  subst er3
  have hl3 := hl3.rd
  have hs0 : Abs.sub H0 Yb := hm3.sub
  have hmo1 : msgOk (offN a k).up.n m := hmo
  clear hp hrg hback q1 hw2 hb2 nw2 hm2 hm3 d2 e2 hu hm hlr g1 g2 hm' hmo
  generalize upd H' o ⟨5, [netRow (offN a k) e d v]⟩ = H15 at *
  generalize upd H'' o ⟨5, [netRow (offN a k) e d v]⟩ = Hn1 at *
  generalize offN a k = a1 at *
  refine ⟨Hn1, hs2, ?_⟩
  have nc1 := nb1.cell
  simp [aField_box, aLd_at nb1.box, nc1]
  have hg1 := hok1.1
  have nr1 := nb1.rows
  refine C_i_Graph_cost (nr1.1.mono hs2) hg1 ⟨hs2, ?_⟩
  simp
  unfold takeN at h
  refine ⟨fun f1 => ?_, fun f1 => ?_⟩
  · rw [if_pos f1] at h
    exact Ret.of (h _ _ _ _ _ _ hs0 nb1 hs2)
  rw [if_neg f1] at h
  refine ⟨Hn1, hs2, ?_⟩
  simp [aLd_at nb1.box, nc1]
  obtain ⟨hr1, hdb1, hdo1⟩ := db_at hok1 hmo1.2.1
  obtain ⟨od, cap, Yw, rws, rfl, hrl, hdb, hsy, hbk⟩ := nb1.elem hr1
  rw [hdb1] at h
  rw [hdb.pt (Abs.sub_refl _) hmo1.2.1.1 hr1]
  simp
  have hlok := hmo1.2.2.2
  have hin := inst_of hdo1 hlok
  have hdo2 : dbOk (installR a1.dbs[m.2.1.toNat] m.2.2).1 := install_ok hdo1
  have hok2 : netOk ⟨a1.up, a1.dbs.set m.2.1.toNat (installR a1.dbs[m.2.1.toNat] m.2.2).1, a1.wires, a1.lost⟩ := netOk_db hok1 hdo2
  refine C_p_i_Db_install (b' := false) hdb hs2 ((lsaT false).mono hl3 (sub_trans nb1.sub hs2)) hdo1 hlok fun H3 Hn3 g1 g2 => ?_
  have nb2 := hbk _ _ g1
  obtain ⟨v2, p1, p2, p3⟩ := g1.ld
  have hfin : (installR a1.dbs[m.2.1.toNat] m.2.2).2 = 0 ∨ (installR a1.dbs[m.2.1.toNat] m.2.2).2 = 2 → findR (installR a1.dbs[m.2.1.toNat] m.2.2).1 m.2.2.origin = (if (installR a1.dbs[m.2.1.toNat] m.2.2).2 = 0 then m.2.2 else (findR (installR a1.dbs[m.2.1.toNat] m.2.2).1 m.2.2.origin).1, true) := fun q => by
    rw [hin] at q ⊢
    by_cases q0 : offerR a1.dbs[m.2.1.toNat] m.2.2 = 0
    · rw [if_pos q0]
      exact find_put hdo1 hlok
    · rw [if_neg q0] at q ⊢
      have q2 : offerR a1.dbs[m.2.1.toNat] m.2.2 = 2 := by simpa [q0] using q
      have := offer_two q2
      simp only [q2]
      exact Prod.ext rfl this
  have hsz : ∀ l ∈ (installR a1.dbs[m.2.1.toNat] m.2.2).1, szl l ≤ 16 := fun l hl => by
    obtain ⟨i, hi, rfl⟩ := List.mem_iff_getElem.1 hl
    exact lsa_small (hdo2.1 i hi)
  generalize installR a1.dbs[m.2.1.toNat] m.2.2 = R at *
  obtain ⟨db2, code⟩ := R
  try dsimp only at *
  clear hin hdb hbk nb1 nc1 nr1 g1 hs2
  unfold afterN at h
  try dsimp only at h
  have nc2 := nb2.cell
  simp
  refine ⟨fun c0 => ⟨fun c2 => ?_, fun c2 => ?_⟩, fun c0 => ?_⟩
  · rw [if_neg c0, if_neg c2] at h
    exact Ret.of (h _ _ _ _ _ _ hs0 nb2 g2)
  all_goals
    have hcode : code = 0 ∨ code = 2 := by omega
    have hfin := hfin hcode
    refine ⟨Hn3, g2, ?_⟩
    simp [p3 _ (Abs.sub_refl _), p2]
    refine C_i_Db_find ((dbT false).mono p1 g2) hdo2 fun i b1 b2 b3 => ⟨g2, ?_⟩
    have hfc := find_case hdo2 b2 b3
    rcases hfc with ⟨hi, ho', hf⟩ | ⟨_, hf⟩
    rotate_left
    · rw [hfin] at hf
      simp at hf
    rw [hf] at hfin
    have hfl : db2[i] = if code = 0 then m.2.2 else db2[i] := by
      exact congrArg Prod.fst hfin
    simp [aExtract, aField_box, p3 _ g2, p2]
    refine rdS_at p1 g2 (by omega) (by simpa using hi) fun p row hp hrow => ?_
    simp only [Int.toNat_natCast] at hrow
    have hrow' := hrow
    obtain ⟨la, sa, rfl, _, _⟩ := hrow
    rw [hp.ld]
    have hszi := hsz _ (List.getElem_mem hi)
    have hszi' : db2[i].links.length + db2[i].stubs.length ≤ 16 := hszi
    simp
    refine C_i_ownLsa (a := db2[i]) (c := false) ((lsaT false).mono hrow' g2) (by omega) fun us H5 hus => ?_
    obtain ⟨lq, sq, rfl, u1, u2⟩ := id hus.rd
    have hqc := lsa_cell u1 u2
    simp [stz_eq, putCells, hqc]
    obtain ⟨Yc, Hn5, v1, nb5, v3⟩ := nb2.under g2 hus
    obtain ⟨Z1, Z2, e5, d5, nw5⟩ := nb5.split
    have hZ : Abs.sub Yc Z2 := sub_trans e5.sub d5.sub
    have hrd5 := (lsaT false).mono v1.rd hZ
    have k400 := hok2.2.2.2.2.1
    have klost := hok2.2.2.2.2.2.1
    have k60 := hg1.2.1
    have hre : Rb false Z2 3 e (a1.up.es.map enEdge) := (e5.rb fun r hr => by
      obtain ⟨x, _, rfl⟩ := List.mem_map.1 hr
      rfl).mono d5.sub
    refine ⟨fun z0 => ?_, fun z0 => ?_⟩
    · rw [if_pos z0] at h
      rw [if_pos z0] at hfl
      have hrd6 : (lsaT false).rd Z2 m.2.2 (lsaRow db2[i] lq sq) := by rw [← hfl]; exact hrd5
      rw [hfl] at hszi'
      refine C_p_i_Net_spread (l := m.2.2) nw5 v3 hre (by omega) k400 klost (by simp only; omega) hrd6 fun H6 Hn6 w5 w6 => ?_
      obtain ⟨w7, nb7⟩ := NB.sends spread_fits e5 d5 w5
      exact Ret.of (h _ _ _ _ _ _ (sub_trans hs0 v1.sub) nb7 w6)
    · have z2 : code = 2 := by omega
      rw [if_neg z0, if_pos z2, hf] at h
      refine C_p_i_Net_send (l := db2[i]) nw5 v3 ((lsaT false).mono hrd5 (sub_trans nw5.sub v3)) (by omega) k400 klost fun H6 Hn6 w5 w6 => ?_
      obtain ⟨w7, nb7⟩ := NB.sends (send_fits ..) e5 d5 w5
      exact Ret.of (h _ _ _ _ _ _ (sub_trans hs0 v1.sub) nb7 w6)
end Go.Proofs.YtohicpepcjgnaaaGreat
