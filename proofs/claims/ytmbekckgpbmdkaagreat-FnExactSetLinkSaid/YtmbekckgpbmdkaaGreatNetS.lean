/-
Contracts: messages are sent; a net in a box of its own.
-/
import Derived.Test.YtmbekckgpbmdkaaGreatLoseC
set_option linter.all false
namespace Go.Proofs.YtmbekckgpbmdkaaGreat
open Go Go.Abs Go.Proofs

theorem held_box {H0 H : Heap} {sz : Nat} {rows : List (List V)} {v : V} {o : Nat} (x : Ob) (h : Held H0 sz rows v H) (ho : H o = none) : Held (upd H0 o x) sz rows v (upd H o x) := by
  rcases h with ⟨h1, h2, rfl⟩ | ⟨p, cap, h1, h2, hc, rfl⟩
  · exact .inl ⟨h1, h2, rfl⟩
  · obtain ⟨hne, _⟩ := upd_none ho
    exact .inr ⟨p, cap, by rw [upd_off (Ne.symm hne)]; exact h1, h2, hc, upd_comm _ _ (Ne.symm hne)⟩
theorem chain_box {o : Nat} (x : Ob) : ∀ {es : List Ent} {H0 H : Heap}, Chain H0 es H → H o = none → Chain (upd H0 o x) es (upd H o x)
  | [], _, _, h, _ => by cases h; rfl
  | e :: es, H0, H, ⟨Hm, h1, h2⟩, ho => ⟨_, held_box x h1 (sub_none h2.sub ho), chain_box x h2 ho⟩
theorem chain_rebase {o : Nat} (x : Ob) : ∀ {es : List Ent} {H0 H : Heap}, Chain H0 es H → H0 o ≠ none → Chain (upd H0 o x) es (upd H o x)
  | [], _, _, h, _ => by cases h; rfl
  | e :: es, H0, H, ⟨Hm, h1, h2⟩, ho => ⟨_, h1.rebase x ho, chain_rebase x h2 fun hn => ho (sub_none h1.sub hn)⟩
theorem dp_box {α : Type} {T : Ty α} {H0 H : Heap} {a : α} {vs : List V} {o : Nat} (x : Ob) (h : Dp T H0 a vs H) (ho : H o = none) : Dp T (upd H0 o x) a vs (upd H o x) := by
  obtain ⟨es, h1, h2⟩ := h
  exact ⟨es, h1, chain_box x h2 ho⟩
theorem dp_rebase {α : Type} {T : Ty α} {H0 H : Heap} {a : α} {vs : List V} {o : Nat} (x : Ob) (h : Dp T H0 a vs H) (ho : H0 o ≠ none) : Dp T (upd H0 o x) a vs (upd H o x) := by
  obtain ⟨es, h1, h2⟩ := h
  exact ⟨es, h1, chain_rebase x h2 ho⟩

/-- A net in a box; the messages are one's own. -/
def NW (c : Bool) (H1 : Heap) (o : Nat) (a : TNet) (e d : V) (H : Heap) : Prop := ∃ w, H1 o = none ∧ okV e ∧ okV d ∧ Dp (wiresT c) (upd H1 o ⟨5, [netRow a e d w]⟩) a.wires [w] H
theorem NW.sub {c : Bool} {H1 H : Heap} {o : Nat} {a : TNet} {e d : V} (h : NW c H1 o a e d H) : Abs.sub H1 H := by
  obtain ⟨w, h1, _, _, h2⟩ := h
  exact sub_trans (sub_fresh h1) h2.sub
theorem NW.of {c : Bool} {H2 H : Heap} {o : Nat} {a : TNet} {e d w : V} (h : Dp (wiresT c) H2 a.wires [w] H) (he : okV e) (hd : okV d) (ho : H o = none) : NW c H2 o a e d (upd H o ⟨5, [netRow a e d w]⟩) :=
  ⟨w, sub_none h.sub ho, he, hd, dp_box _ h ho⟩
theorem NW.open {c : Bool} {H1 H : Heap} {o : Nat} {a : TNet} {e d : V} (h : NW c H1 o a e d H) : ∃ w, H o = some ⟨5, [netRow a e d w]⟩ ∧ H1 o = none ∧ Dp (wiresT c) (upd H1 o ⟨5, [netRow a e d w]⟩) a.wires [w] H ∧ okV e ∧ okV d ∧ okV w := by
  obtain ⟨w, h1, he, hd, h2⟩ := h
  exact ⟨w, h2.sub _ _ (upd_eq _ _ _), h1, h2, he, hd, dpS_cell h2⟩
/-- The box is written over. -/
theorem NW.put {c : Bool} {H1 H Hb : Heap} {o : Nat} {a' : TNet} {x : Ob} {e d w : V} (ho : H1 o = none) (he : okV e) (hd : okV d) (h : Dp (wiresT c) (upd H1 o x) a'.wires [w] H) (hs : Abs.sub H Hb) :
    NW c H1 o a' e d (upd H o ⟨5, [netRow a' e d w]⟩) ∧ Abs.sub (upd H o ⟨5, [netRow a' e d w]⟩) (upd Hb o ⟨5, [netRow a' e d w]⟩) := by
  have := dp_rebase (o := o) ⟨5, [netRow a' e d w]⟩ h (by rw [upd_eq]; simp)
  rw [upd_upd] at this
  exact ⟨⟨w, ho, he, hd, this⟩, sub_upd2 hs⟩
/-- The box is left. -/
theorem NW.leave {c : Bool} {H H1 H2 Hn : Heap} {o : Nat} {a : TNet} {e d w : V} (h1 : Held H 3 (a.up.es.map enEdge) e H1) (h2 : Dp (dbsT c) H1 a.dbs [d] H2) (ho : H2 o = none) (h : Dp (wiresT c) (upd H2 o ⟨5, [netRow a e d w]⟩) a.wires [w] Hn) :
    ∃ H', Dp (netT c) H a (netRow a e d w) H' ∧ Abs.sub H' Hn := by
  obtain ⟨H', q1, q2⟩ := h.shrink (sub_fresh ho)
  exact ⟨H', Dp.net h1 h2 q1, q2⟩

def sendN (a : TNet) (x y : Int) (l : TLsa) : TNet := if a.wires.length < 400 then ⟨a.up, a.dbs, a.wires ++ [(x, y, l)], a.lost⟩ else ⟨a.up, a.dbs, a.wires, min 1000000 (a.lost + 1)⟩
set_option maxHeartbeats 1000000 in
theorem C_s_l08Send {b c : Bool} {a : TNet} {x y : Int} {l : TLsa} {vs : List V} {o : Nat} {e d : V} {H0 Hn H : Heap} {K : V → Heap → Prop} (hn : NW c H0 o a e d Hn) (hs : Abs.sub Hn H) (hv : (lsaT b).rd H l vs) (hl : l.links.length ≤ 1048576 ∧ l.stubs.length ≤ 1048576) (hw : a.wires.length ≤ 400) (hd : 0 ≤ a.lost ∧ a.lost ≤ 1000000)
    (h : ∀ H' Hn', NW c H0 o (sendN a x y l) e d Hn' → Abs.sub Hn' H' → K (.tup []) H') : ACalls P n_s_l08Send [.ptr o 0 0, .int .i64 x, .int .i64 y, .agg vs] H K := by
  obtain ⟨w, hbox, ho, h3, ce, cd, cw⟩ := hn.open
  have hbH := hs _ _ hbox
  have hB : Abs.sub (upd H0 o ⟨5, [netRow a e d w]⟩) H := sub_trans h3.sub hs
  have hlw : lenOf w = some a.wires.length := rdS_len h3.rd
  have hv' := hv
  obtain ⟨q1, q2, rfl, q3, q4⟩ := hv
  have hcc := lsa_cell q3 q4
  apply W_s_l08Send
  unfold F_s_l08Send
  simp [hcc, aNil, aField_box, aLd_at hbH, ce, cd, cw, hlw]
  unfold sendN at h
  refine ⟨fun h4 => ?_, fun h4 => ?_⟩
  · rw [if_neg (by omega)] at h
    refine ⟨fun h5 => ?_, fun h5 => ?_⟩
    · rw [i64_in (by omega) (by omega), aSt_at hbH]
      simp [stz_eq, putCells]
      have e1 : min 1000000 (a.lost + 1) = a.lost + 1 := by omega
      rw [e1] at h
      obtain ⟨g1, g2⟩ := NW.put (a' := ⟨a.up, a.dbs, a.wires, a.lost + 1⟩) (e := e) (d := d) (w := w) (Hb := H) ho ce cd h3 hs
      exact Ret.of (h _ _ g1 g2)
    · have e1 : min 1000000 (a.lost + 1) = a.lost := by omega
      rw [e1] at h
      exact Ret.of (h _ _ hn hs)
  · rw [if_pos (by omega)] at h
    refine ⟨upd H0 o ⟨5, [netRow a e d w]⟩, hB, ?_⟩
    simp [aLd_at (upd_eq H0 o _), cw]
    refine C_s_l05Copy (b := b) (c := c) hv' hl fun us Hx hus => ⟨sub_trans hB hus.sub, ?_⟩
    obtain ⟨Hy, hus2, hsy⟩ := hus.shrink hs
    have hm := Dp.msg (x := x) (y := y) hus2
    obtain ⟨l', s', Hm, rfl, w1, w2⟩ := lsa_dp hus
    have c1 := w1.cell
    have c2 := w2.cell
    simp [bsl_one, fill_msg, c1, c2]
    intro o2 ho2
    refine ⟨sub_trans (sub_trans hB hus.sub) (sub_fresh ho2), ?_⟩
    refine dpS_app (T := msgT c) h3 hm (sub_trans hsy (sub_fresh ho2)) (by omega) fun v' H' H'' ho' hs' => ?_
    have cv := dpS_cell ho'
    have hB2 : Abs.sub (upd H0 o ⟨5, [netRow a e d w]⟩) H' := sub_trans ho'.sub hs'
    refine ⟨hB2, noHeap, none_sub _, ?_⟩
    rw [aSt_at (hB2 _ _ (upd_eq _ _ _))]
    simp [stz_eq, putCells, cv]
    obtain ⟨g1, g2⟩ := NW.put (a' := ⟨a.up, a.dbs, a.wires ++ [(x, y, l)], a.lost⟩) (e := e) (d := d) (w := v') (Hb := H') ho ce cd ho' hs'
    exact ⟨none_sub _, Ret.of (h _ _ g1 g2)⟩
set_option maxHeartbeats 1000000 in
theorem C_p_i_Net_send {c : Bool} {a : TNet} {x y : Int} {l : TLsa} {vs : List V} {o : Nat} {e d : V} {H0 Hn H : Heap} {K : V → Heap → Prop} (hn : NW c H0 o a e d Hn) (hs : Abs.sub Hn H) (hv : (lsaT false).rd H l vs) (hl : l.links.length ≤ 1048576 ∧ l.stubs.length ≤ 1048576) (hw : a.wires.length ≤ 400) (hd : 0 ≤ a.lost ∧ a.lost ≤ 1000000)
    (h : ∀ H' Hn', NW c H0 o (sendN a x y l) e d Hn' → Abs.sub Hn' H' → K (.tup []) H') : ACalls P n_p_i_Net_send [.ptr o 0 0, .int .i64 x, .int .i64 y, .agg vs] H K := by
  obtain ⟨w, hbox, ho, h3, ce, cd, cw⟩ := hn.open
  have hbH := hs _ _ hbox
  have hB : Abs.sub (upd H0 o ⟨5, [netRow a e d w]⟩) H := sub_trans h3.sub hs
  have hlw : lenOf w = some a.wires.length := rdS_len h3.rd
  have hv' := hv
  obtain ⟨q1, q2, rfl, q3, q4⟩ := hv
  have hcc := lsa_cell q3 q4
  apply W_p_i_Net_send
  unfold F_p_i_Net_send
  simp [hcc, aNil, aField_box, aLd_at hbH, ce, cd, cw, hlw]
  unfold sendN at h
  refine ⟨fun h4 => ?_, fun h4 => ?_⟩
  · rw [if_pos (by omega)] at h
    refine ⟨upd H0 o ⟨5, [netRow a e d w]⟩, hB, ?_⟩
    simp [aLd_at (upd_eq H0 o _), cw]
    refine C_i_ownLsa (c := c) hv' hl fun us Hx hus => ⟨sub_trans hB hus.sub, ?_⟩
    obtain ⟨Hy, hus2, hsy⟩ := hus.shrink hs
    have hm := Dp.msg (x := x) (y := y) hus2
    obtain ⟨l', s', Hm, rfl, w1, w2⟩ := lsa_dp hus
    have c1 := w1.cell
    have c2 := w2.cell
    simp [bsl_one, fill_msg, c1, c2]
    intro o2 ho2
    refine ⟨sub_trans (sub_trans hB hus.sub) (sub_fresh ho2), ?_⟩
    refine dpS_app (T := msgT c) h3 hm (sub_trans hsy (sub_fresh ho2)) (by omega) fun v' H' H'' ho' hs' => ?_
    have cv := dpS_cell ho'
    have hB2 : Abs.sub (upd H0 o ⟨5, [netRow a e d w]⟩) H' := sub_trans ho'.sub hs'
    refine ⟨hB2, noHeap, none_sub _, ?_⟩
    rw [aSt_at (hB2 _ _ (upd_eq _ _ _))]
    simp [stz_eq, putCells, cv]
    obtain ⟨g1, g2⟩ := NW.put (a' := ⟨a.up, a.dbs, a.wires ++ [(x, y, l)], a.lost⟩) (e := e) (d := d) (w := v') (Hb := H') ho ce cd ho' hs'
    exact ⟨none_sub _, Ret.of (h _ _ g1 g2)⟩
  · rw [if_neg (by omega)] at h
    rw [i64_in (by omega) (by omega), aMins_two]
    simp
    rw [aSt_at hbH]
    simp [stz_eq, putCells]
    obtain ⟨g1, g2⟩ := NW.put (a' := ⟨a.up, a.dbs, a.wires, min 1000000 (a.lost + 1)⟩) (e := e) (d := d) (w := w) (Hb := H) ho ce cd h3 hs
    exact Ret.of (h _ _ g1 g2)

def sendsN (x y : Int) (ls : List TLsa) (a : TNet) : TNet := ls.foldl (fun a l => sendN a x y l) a
structure Fits (a b : TNet) : Prop where
  up : b.up = a.up
  dbs : b.dbs = a.dbs
  wires : a.wires.length ≤ 400 → b.wires.length ≤ 400
  lost : 0 ≤ a.lost ∧ a.lost ≤ 1000000 → 0 ≤ b.lost ∧ b.lost ≤ 1000000
theorem Fits.refl (a : TNet) : Fits a a := ⟨rfl, rfl, id, id⟩
theorem Fits.trans {a b c : TNet} (h : Fits a b) (k : Fits b c) : Fits a c := ⟨k.up.trans h.up, k.dbs.trans h.dbs, fun x => k.wires (h.wires x), fun x => k.lost (h.lost x)⟩
theorem send_fits (a : TNet) (x y : Int) (l : TLsa) : Fits a (sendN a x y l) := by
  unfold sendN
  split
  · exact ⟨rfl, rfl, fun _ => by simp; omega, id⟩
  · exact ⟨rfl, rfl, id, fun h => by simp; omega⟩
theorem sends_fits (x y : Int) : ∀ (ls : List TLsa) (a : TNet), Fits a (sendsN x y ls a)
  | [], a => Fits.refl a
  | l :: ls, a => (send_fits a x y l).trans (sends_fits x y ls _)
theorem sends_succ {x y : Int} {ls : List TLsa} {a : TNet} {i : Nat} (h : i < ls.length) : sendsN x y (ls.take (i + 1)) a = sendN (sendsN x y (ls.take i) a) x y ls[i] := by
  unfold sendsN
  rw [List.take_succ_eq_append_getElem h, List.foldl_append]
  rfl
def tellN (a : TNet) (x y : Int) : TNet := sendsN x y (a.dbs.getD x.toNat []) a

def InvTell (c : Bool) (H0 : Heap) (o : Nat) (e d : V) (x y : Int) (ls : List TLsa) (a : TNet) (m : Nat) (ys : List V) (Hc : Heap) : Prop :=
  ∃ i Hn', i ≤ ls.length ∧ ys = [.int .i64 (i : Nat)] ∧ m = ls.length - i ∧ NW c H0 o (sendsN x y (ls.take i) a) e d Hn' ∧ Abs.sub Hn' Hc
set_option maxHeartbeats 1000000 in
theorem C_s_l08Tell {c : Bool} {a : TNet} {x y : Int} {o : Nat} {e d : V} {H0 Hn H : Heap} {K : V → Heap → Prop} (hn : NW c H0 o a e d Hn) (hs : Abs.sub Hn H) (hdb : (dbsT c).rd H0 a.dbs [d]) (hx : 0 ≤ x ∧ x.toNat < a.dbs.length) (hl : ∀ db ∈ a.dbs, szd db ≤ 1048576) (hw : a.wires.length ≤ 400) (hd : 0 ≤ a.lost ∧ a.lost ≤ 1000000)
    (h : ∀ H' Hn', NW c H0 o (tellN a x y) e d Hn' → Abs.sub Hn' H' → K (.tup []) H') : ACalls P n_s_l08Tell [.ptr o 0 0, .int .i64 x, .int .i64 y] H K := by
  have hls : a.dbs.getD x.toNat [] = a.dbs[x.toNat]'hx.2 := by rw [List.getD_eq_getElem?_getD, List.getElem?_eq_getElem hx.2]; rfl
  have hbd := hl _ (List.getElem_mem hx.2)
  unfold tellN at h
  rw [hls] at h
  apply W_s_l08Tell
  unfold F_s_l08Tell
  simp
  generalize hlsd : a.dbs[x.toNat]'hx.2 = ls at *
  have hbl : ls.length ≤ 1048576 := by have : szd ls = ls.length + sumF szl ls := rfl; omega
  refine ⟨InvTell c H0 o e d x y ls a, ⟨ls.length, Shr.of ⟨0, Hn, by omega, rfl, by omega, hn, hs⟩⟩, ?_⟩
  rintro m ys Hc ⟨i, Hn', hi, rfl, rfl, hn', hs'⟩
  obtain ⟨w, hbox, ho, h3, ce, cd, cw⟩ := hn'.open
  have hbH := hs' _ _ hbox
  have hsub : Abs.sub H0 Hc := sub_trans hn'.sub hs'
  have hf := sends_fits x y (ls.take i) a
  simp [aNil, aField_box, aLd_at hbH, cd]
  refine rdS_idx ((dbsT c).mono hdb hsub) hx.1 hx.2 fun p row hp hr => ?_
  rw [hlsd] at hr
  have hr' := hr
  obtain ⟨u, rows, rfl, _, _⟩ := hr
  have cu := rdS_cell hr'
  refine hp.fld fun q hq => ?_
  rw [hq.ld]
  simp [cu, rdS_len hr']
  refine ⟨fun hlt => ?_, fun hge => ?_⟩
  · refine rdS_idx ((dbsT c).mono hdb hsub) hx.1 hx.2 fun p row hp hr => ?_
    rw [hlsd] at hr
    have hr2 := hr
    obtain ⟨u2, rows, rfl, _, _⟩ := hr
    have cu2 := rdS_cell hr2
    refine hp.fld fun q hq => ?_
    rw [hq.ld]
    simp [cu2]
    refine rdS_idx hr2 (by omega) (by simpa using hlt) fun p row hp hr => ?_
    simp only [Int.toNat_natCast] at hr
    have hr3 := hr
    obtain ⟨l, s, rfl, g1, g2⟩ := hr
    rw [hp.ld]
    simp
    have hz := le_sumF (f := szl) hlt
    have hz1 : szl ls[i] = ls[i].links.length + ls[i].stubs.length := rfl
    have hz2 : szd ls = ls.length + sumF szl ls := rfl
    refine C_s_l08Send (b := c) hn' hs' hr3 (by omega) (hf.wires hw) (hf.lost hd) fun H' Hn2 g3 g4 => ?_
    rw [i64_in (by omega) (by omega)]
    refine ⟨ls.length - (i + 1), by omega, Shr.of ⟨i + 1, Hn2, by omega, by simp, rfl, ?_, g4⟩⟩
    rw [sends_succ hlt]
    exact g3
  · have : i = ls.length := by omega
    subst this
    rw [List.take_length] at hn'
    exact Ret.of (h _ _ hn' hs')
set_option maxHeartbeats 1000000 in
theorem C_p_i_Net_tell {a : TNet} {x y : Int} {o : Nat} {e d : V} {H0 Hn H : Heap} {K : V → Heap → Prop} (hn : NW false H0 o a e d Hn) (hs : Abs.sub Hn H) (hdb : (dbsT false).rd H0 a.dbs [d]) (hx : 0 ≤ x ∧ x.toNat < a.dbs.length) (hl : ∀ db ∈ a.dbs, szd db ≤ 1048576) (hw : a.wires.length ≤ 400) (hd : 0 ≤ a.lost ∧ a.lost ≤ 1000000)
    (h : ∀ H' Hn', NW false H0 o (tellN a x y) e d Hn' → Abs.sub Hn' H' → K (.tup []) H') : ACalls P n_p_i_Net_tell [.ptr o 0 0, .int .i64 x, .int .i64 y] H K := by
  have hls : a.dbs.getD x.toNat [] = a.dbs[x.toNat]'hx.2 := by rw [List.getD_eq_getElem?_getD, List.getElem?_eq_getElem hx.2]; rfl
  have hbd := hl _ (List.getElem_mem hx.2)
  unfold tellN at h
  rw [hls] at h
  obtain ⟨w, hbox, ho, h3, ce, cd, cw⟩ := hn.open
  have hbH := hs _ _ hbox
  have hsub : Abs.sub H0 H := sub_trans hn.sub hs
  apply W_p_i_Net_tell
  unfold F_p_i_Net_tell
  simp [aNil, aField_box, aLd_at hbH, cd]
  refine rdS_at hdb hsub hx.1 hx.2 fun p row hp hr => ?_
  generalize hlsd : a.dbs[x.toNat]'hx.2 = ls at *
  have hbl : ls.length ≤ 1048576 := by have : szd ls = ls.length + sumF szl ls := rfl; omega
  have hr' := hr
  obtain ⟨u, rows, rfl, _, _⟩ := hr
  have cu := rdS_cell hr'
  refine hp.fld fun q hq => ?_
  rw [hq.ld]
  simp [cu, rdS_len hr']
  refine ⟨InvTell false H0 o e d x y ls a, ⟨ls.length, Shr.of ⟨0, Hn, by omega, rfl, by omega, hn, hs⟩⟩, ?_⟩
  rintro m ys Hc ⟨i, Hn', hi, rfl, rfl, hn', hs'⟩
  have hsub : Abs.sub H0 Hc := sub_trans hn'.sub hs'
  have hf := sends_fits x y (ls.take i) a
  simp
  refine ⟨fun hlt => ?_, fun hge => ?_⟩
  · refine rdS_idx ((dbT false).mono hr' hsub) (by omega) (by simpa using hlt) fun p row hp hr => ?_
    simp only [Int.toNat_natCast] at hr
    have hr3 := hr
    obtain ⟨l, s, rfl, g1, g2⟩ := hr
    have hlc := lsa_cell g1 g2
    rw [hp.ld]
    simp [stz_eq, putCells, hlc]
    have hz := le_sumF (f := szl) hlt
    have hz1 : szl ls[i] = ls[i].links.length + ls[i].stubs.length := rfl
    have hz2 : szd ls = ls.length + sumF szl ls := rfl
    refine C_p_i_Net_send (l := ls[i]) hn' hs' hr3 (by omega) (hf.wires hw) (hf.lost hd) fun H' Hn2 g3 g4 => ?_
    rw [i64_in (by omega) (by omega)]
    refine ⟨ls.length - (i + 1), by omega, Shr.of ⟨i + 1, Hn2, by omega, by simp, rfl, ?_, g4⟩⟩
    rw [sends_succ hlt]
    exact g3
  · have : i = ls.length := by omega
    subst this
    rw [List.take_length] at hn'
    exact Ret.of (h _ _ hn' hs')
end Go.Proofs.YtmbekckgpbmdkaaGreat
