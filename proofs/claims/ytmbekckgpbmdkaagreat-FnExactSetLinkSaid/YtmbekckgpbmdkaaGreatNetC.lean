/-
Contracts: copies of nets.
-/
import Derived.Test.YtmbekckgpbmdkaaGreatNetK
import Derived.Test.YtmbekckgpbmdkaaGreatNetF
import Derived.Test.YtmbekckgpbmdkaaGreatAbs3
set_option linter.all false
namespace Go.Proofs.YtmbekckgpbmdkaaGreat
open Go Go.Abs Go.Proofs

def InvK1 (H : Heap) (n : Int) (es : List TEdge) (e : V) (m : Nat) (ys : List V) (Hc : Heap) : Prop :=
  ∃ (i : Nat) (u : V), i ≤ es.length ∧ ys = [.box [.int .i64 n, e], .box [.int .i64 0, .nils], .box [.int .i64 n, u], .int .i64 (i : Nat)] ∧ m = es.length - i ∧ Held H 3 ((es.take i).map enEdge) u Hc
theorem C_s_l03Copy {b : Bool} {n : Int} {es : List TEdge} {e : V} {H : Heap} {K : V → Heap → Prop} (hv : Rb b H 3 e (es.map enEdge)) (hl : es.length ≤ 1048576) (h : ∀ u H', Held H 3 (es.map enEdge) u H' → K (.agg [.int .i64 n, u]) H') : ACalls P n_s_l03Copy [.agg [.int .i64 n, e]] H K := by
  have hc := hv.1.cell
  have h2 := hv.1
  apply W_s_l03Copy
  unfold F_s_l03Copy
  simp [hc, stz_eq, putCells, fillZ]
  refine ⟨InvK1 H n es e, ⟨es.length, Shr.of ⟨0, .nils, by omega, rfl, by omega, by simpa using Held.nil⟩⟩, ?_⟩
  rintro m ys Hc ⟨i, u, hi, rfl, rfl, hu⟩
  have cu := hu.cell
  simp [hc, h2.len]
  refine ⟨fun hlt => ?_, fun hge => ?_⟩
  · refine (h2.mono hu.sub).idx (by omega) (by simpa using hlt) fun p hp => ?_
    rw [hp.ld]
    simp [hlt, cu, bsl_one]
    intro o ho
    refine hu.append (sub_fresh ho) (by simp) (by simp; omega) fun v' H' H'' ho' hs' => ?_
    have cv := ho'.cell
    simp [stz_eq, putCells, cv]
    rw [i64_in (by omega) (by omega)]
    refine ⟨es.length - (i + 1), by omega, H'', hs', i + 1, v', by omega, by simp, rfl, ?_⟩
    rw [List.take_succ_eq_append_getElem hlt, List.map_append]
    exact ho'
  · have : i = es.length := by omega
    subst this
    rw [List.take_length] at hu
    simp [stz_eq, putCells, cu]
    exact Ret.of (h _ _ hu)
theorem C_Clone_Edge {rows : List (List V)} {v : V} {H : Heap} {K : V → Heap → Prop} (hv : Rb false H 3 v rows) (hl : rows.length ≤ 1048576) (h : ∀ u H', Held H 3 rows u H' → K u H') : ACalls P n_slices_Clone_i_Edge_i_Edge [v] H K := by
  obtain ⟨hv, hro⟩ := hv
  have hro := hro rfl
  apply W_slices_Clone_i_Edge_i_Edge
  unfold F_slices_Clone_i_Edge_i_Edge
  have hn : (v = .nils ∧ rows = []) ∨ ∃ o s n c, v = .slice o s n c := by
    rcases hv.2 with rfl | h | ⟨o, s, cap, ob, rfl, _⟩
    · exact absurd rfl (hro _)
    · exact .inl h
    · exact .inr ⟨_, _, _, _, rfl⟩
  rcases hn with ⟨rfl, rfl⟩ | ⟨o, s, n, c, rfl⟩
  · simp [aBinZ, isNil]
    exact Ret.of (h _ _ Held.nil)
  · simp [aBinZ, isNil, bsl_nil]
    intro o3 ho3
    have h0 := Held.new (sz := 3) ho3
    rw [(hv.mono h0.sub).rows hro]
    simp
    by_cases hr : rows = []
    · subst hr
      simp [appendK]
      exact Ret.of (h _ _ h0)
    · refine h0.append (Abs.sub_refl _) hr (by simp; omega) fun v' H' H'' ho' hs' => ?_
      exact Ret.shr (h v' H'' (by simpa using ho')) rfl hs'
theorem C_i_ownGraph {n : Int} {es : List TEdge} {e : V} {H : Heap} {K : V → Heap → Prop} (hv : Rb false H 3 e (es.map enEdge)) (hl : es.length ≤ 1048576) (h : ∀ u H', Held H 3 (es.map enEdge) u H' → K (.agg [.int .i64 n, u]) H') : ACalls P n_i_ownGraph [.agg [.int .i64 n, e]] H K := by
  have hc := hv.1.cell
  apply W_i_ownGraph
  unfold F_i_ownGraph
  simp [hc]
  refine ⟨_, Abs.sub_refl _, ?_⟩
  refine C_Clone_Edge hv (by simp; omega) fun u H1 hu => ⟨hu.sub, ?_⟩
  have cu := hu.cell
  simp [stz_eq, putCells, cu, fillZ]
  exact Ret.of (h _ _ hu)

theorem aField_box {off o r c : Nat} : aField off (.ptr o r c) = some (.ptr o r (c + off)) := rfl
theorem fill_net {n k : Int} {u : V} (c0 : okV u) : fillZ [.int .i64 0, .nils, .nils, .nils, .int .i64 0] [(0, 2, .agg [.int .i64 n, u]), (4, 1, .int .i64 k)] = some [.int .i64 n, u, .nils, .nils, .int .i64 k] := by
  simp [fillZ, putCells, c0]
theorem fill_msg {x y : Int} {us : List V} (h : us.length = 5) : fillZ [.int .i64 0, .int .i64 0, .int .i64 0, .int .i64 0, .int .i64 0, .nils, .nils] [(0, 1, .int .i64 x), (1, 1, .int .i64 y), (2, 5, .agg us)] = some (.int .i64 x :: .int .i64 y :: us) := by
  match us, h with
  | [a, b, c, d, e], _ => simp [fillZ, putCells]
def InvNa (c : Bool) (H : Heap) (a : TNet) (e : V) (m : Nat) (ys : List V) (Hc : Heap) : Prop :=
  ∃ (i : Nat) (u : V), i ≤ a.dbs.length ∧ ys = [.box [.int .i64 0, .nils, .nils, .nils, .int .i64 0], .box [.int .i64 a.up.n, e, u, .nils, .int .i64 a.lost], .int .i64 (i : Nat)] ∧ m = a.dbs.length - i ∧ Dp (dbsT c) H (a.dbs.take i) [u] Hc
def InvNb (c : Bool) (H : Heap) (a : TNet) (e d : V) (m : Nat) (ys : List V) (Hc : Heap) : Prop :=
  ∃ (i : Nat) (u : V), i ≤ a.wires.length ∧ ys = [.box [.int .i64 0, .nils, .nils, .nils, .int .i64 0], .box [.int .i64 a.up.n, e, d, u, .int .i64 a.lost], .int .i64 (i : Nat)] ∧ m = a.wires.length - i ∧ Dp (wiresT c) H (a.wires.take i) [u] Hc
set_option maxHeartbeats 1000000 in
theorem C_s_l08Copy {b c : Bool} {a : TNet} {vs : List V} {H : Heap} {K : V → Heap → Prop} (hv : (netT b).rd H a vs) (hl : bNet a) (h : ∀ us H', Dp (netT c) H a us H' → K (.agg us) H') : ACalls P n_s_l08Copy [.agg vs] H K := by
  obtain ⟨e, d, w, rfl, g1, g2, g3⟩ := hv
  have hc := net_cell g1 g2 g3
  unfold bNet szn at hl
  apply W_s_l08Copy
  unfold F_s_l08Copy
  simp [hc]
  intro o ho
  have hs := sub_fresh (x := ⟨5, [netRow a e d w]⟩) ho
  replace g1 := g1.mono hs
  replace g2 := (dbsT b).mono g2 hs
  replace g3 := (wiresT b).mono g3 hs
  have hbox : (upd H o ⟨5, [netRow a e d w]⟩) o = some ⟨5, [netRow a e d w]⟩ := upd_eq H o _
  generalize hHb : upd H o ⟨5, [netRow a e d w]⟩ = Hb at *
  refine ⟨_, Abs.sub_refl _, ?_⟩
  simp [aField_box, aLd_at hbox, hc]
  refine C_s_l03Copy (b := b) g1 (by omega) fun u0 H1 hu0 => ⟨hu0.sub, ?_⟩
  have c0 := hu0.cell
  simp [stz_eq, putCells, fill_net c0, c0]
  refine ⟨InvNa c H1 a u0, ⟨a.dbs.length, Shr.of ⟨0, .nils, by omega, rfl, by omega, by simpa using dpS_nil⟩⟩, ?_⟩
  rintro m ys Hc ⟨i, u, hi, rfl, rfl, hu⟩
  have cu := dpS_cell hu
  have hs1 : Abs.sub Hb Hc := sub_trans hu0.sub hu.sub
  have hbox1 := hs1 _ _ hbox
  simp [aField_box, aLd_at hbox1, hc, rdS_len g2]
  refine ⟨fun hlt => ?_, fun hge => ?_⟩
  · refine rdS_idx ((dbsT b).mono g2 hs1) (by omega) (by simpa using hlt) fun p row hp hr => ?_
    simp only [Int.toNat_natCast] at hr
    rw [hp.ld]
    have hz := le_sumF (f := szd) hlt
    have hz' : szd a.dbs[i] = a.dbs[i].length + sumF szl a.dbs[i] := rfl
    have hr' := hr
    obtain ⟨x, rs, rfl, _⟩ := hr
    simp [cu]
    refine C_s_l06Copy (b := b) (c := c) hr' (by omega) fun us H2 hus => ?_
    have cx := dpS_cell hus
    simp [bsl_one, cx]
    intro o2 ho2
    refine dpS_app (T := dbT c) hu hus (sub_fresh ho2) (by simp; omega) fun v' H' H'' ho' hs' => ?_
    have cv := dpS_cell ho'
    simp [stz_eq, putCells, cv]
    rw [i64_in (by omega) (by omega)]
    refine ⟨a.dbs.length - (i + 1), by omega, H'', hs', i + 1, v', by omega, by simp, rfl, ?_⟩
    rw [List.take_succ_eq_append_getElem hlt]
    exact ho'
  · have : i = a.dbs.length := by omega
    subst this
    rw [List.take_length] at hu
    refine ⟨InvNb c Hc a u0 u, ⟨a.wires.length, Shr.of ⟨0, .nils, by omega, rfl, by omega, by simpa using dpS_nil⟩⟩, ?_⟩
    rintro m ys Hd ⟨i, t, hi, rfl, rfl, ht⟩
    have ct := dpS_cell ht
    have hs2 : Abs.sub Hb Hd := sub_trans hs1 ht.sub
    have hbox2 := hs2 _ _ hbox
    simp [aField_box, aLd_at hbox2, hc, rdS_len g3]
    refine ⟨fun hlt => ?_, fun hge => ?_⟩
    · refine ⟨Hc, ht.sub, ?_⟩
      simp [aField_box, aLd_at hbox1, hc]
      have g3' := (wiresT b).mono g3 hs1
      have hz := le_sumF (f := szw) hlt
      have hz' : szw a.wires[i] = a.wires[i].2.2.links.length + a.wires[i].2.2.stubs.length := rfl
      refine rdS_idx g3' (by omega) (by simpa using hlt) fun p row hp hr => hp.fld fun q hq => ?_
      simp only [Int.toNat_natCast] at hr
      obtain ⟨r, rfl, hr⟩ := hr
      rw [hq.ld]
      simp
      refine rdS_idx g3' (by omega) (by simpa using hlt) fun p row hp hr2 => hp.fld fun q hq => ?_
      simp only [Int.toNat_natCast] at hr2
      obtain ⟨r2, rfl, hr2⟩ := hr2
      rw [hq.ld]
      simp
      refine rdS_idx g3' (by omega) (by simpa using hlt) fun p row hp hr3 => hp.fld fun q hq => ?_
      simp only [Int.toNat_natCast] at hr3
      obtain ⟨r3, rfl, hr3⟩ := hr3
      rw [hq.ld]
      have hr3' := hr3
      obtain ⟨l, s, rfl, _, _⟩ := hr3
      simp
      refine C_s_l05Copy (b := b) (c := c) ((lsaT b).mono hr3' ht.sub) (by omega) fun us H2 hus => ⟨sub_trans ht.sub hus.sub, ?_⟩
      have hw := Dp.msg (x := a.wires[i].1) (y := a.wires[i].2.1) hus
      obtain ⟨l', s', Hm, rfl, w1, w2⟩ := lsa_dp hus
      have c1 := w1.cell
      have c2 := w2.cell
      simp [bsl_one, fill_msg, c1, c2, ct]
      intro o2 ho2
      refine ⟨sub_trans (sub_trans ht.sub hus.sub) (sub_fresh ho2), ?_⟩
      refine dpS_app (T := msgT c) ht hw (sub_fresh ho2) (by simp; omega) fun v' H' H'' ho' hs' => ⟨sub_trans ho'.sub hs', ?_⟩
      have cv := dpS_cell ho'
      simp [stz_eq, putCells, cv]
      rw [i64_in (by omega) (by omega)]
      refine ⟨a.wires.length - (i + 1), by omega, H'', hs', i + 1, v', by omega, by simp, rfl, ?_⟩
      rw [List.take_succ_eq_append_getElem hlt]
      exact ho'
    · have : i = a.wires.length := by omega
      subst this
      rw [List.take_length] at ht
      simp [stz_eq, putCells, c0, cu, ct]
      exact Ret.dp (f := V.agg) (Dp.net (a := a) hu0 hu ht) hs h

set_option maxHeartbeats 1000000 in
theorem C_i_ownNet {c : Bool} {a : TNet} {vs : List V} {H : Heap} {K : V → Heap → Prop} (hv : (netT false).rd H a vs) (hl : bNet a) (h : ∀ us H', Dp (netT c) H a us H' → K (.agg us) H') : ACalls P n_i_ownNet [.agg vs] H K := by
  obtain ⟨e, d, w, rfl, g1, g2, g3⟩ := hv
  have hc := net_cell g1 g2 g3
  unfold bNet szn at hl
  apply W_i_ownNet
  unfold F_i_ownNet
  simp [hc]
  intro o ho
  have hs := sub_fresh (x := ⟨5, [netRow a e d w]⟩) ho
  replace g1 := g1.mono hs
  replace g2 := (dbsT false).mono g2 hs
  replace g3 := (wiresT false).mono g3 hs
  have hbox : (upd H o ⟨5, [netRow a e d w]⟩) o = some ⟨5, [netRow a e d w]⟩ := upd_eq H o _
  generalize hHb : upd H o ⟨5, [netRow a e d w]⟩ = Hb at *
  refine ⟨_, Abs.sub_refl _, ?_⟩
  simp [aField_box, aLd_at hbox, hc]
  refine C_i_ownGraph g1 (by omega) fun u0 H1 hu0 => ⟨hu0.sub, ?_⟩
  have c0 := hu0.cell
  have hbox0 := hu0.sub _ _ hbox
  simp [stz_eq, putCells, fill_net c0, c0, aField_box, aLd_at hbox0, hc, rdS_len g2]
  refine ⟨InvNa c H1 a u0, ⟨a.dbs.length, Shr.of ⟨0, .nils, by omega, rfl, by omega, by simpa using dpS_nil⟩⟩, ?_⟩
  rintro m ys Hc ⟨i, u, hi, rfl, rfl, hu⟩
  have cu := dpS_cell hu
  have hs1 : Abs.sub Hb Hc := sub_trans hu0.sub hu.sub
  have hbox1 := hs1 _ _ hbox
  simp
  refine ⟨fun hlt => ?_, fun hge => ?_⟩
  · refine rdS_idx ((dbsT false).mono g2 hs1) (by omega) (by simpa using hlt) fun p row hp hr => ?_
    simp only [Int.toNat_natCast] at hr
    rw [hp.ld]
    have hz := le_sumF (f := szd) hlt
    have hz' : szd a.dbs[i] = a.dbs[i].length + sumF szl a.dbs[i] := rfl
    have hr' := hr
    obtain ⟨x, rs, rfl, _⟩ := hr
    have cx := rdS_cell hr'
    simp [cu, stz_eq, putCells, cx]
    refine C_i_ownDb (c := c) hr' (by omega) fun us H2 hus => ?_
    have cx := dpS_cell hus
    simp [bsl_one, cx]
    intro o2 ho2
    refine dpS_app (T := dbT c) hu hus (sub_fresh ho2) (by simp; omega) fun v' H' H'' ho' hs' => ?_
    have cv := dpS_cell ho'
    simp [stz_eq, putCells, cv]
    rw [i64_in (by omega) (by omega)]
    refine ⟨a.dbs.length - (i + 1), by omega, H'', hs', i + 1, v', by omega, by simp, rfl, ?_⟩
    rw [List.take_succ_eq_append_getElem hlt]
    exact ho'
  · have : i = a.dbs.length := by omega
    subst this
    rw [List.take_length] at hu
    simp [aField_box, aLd_at hbox1, hc, rdS_len g3]
    refine ⟨InvNb c Hc a u0 u, ⟨a.wires.length, Shr.of ⟨0, .nils, by omega, rfl, by omega, by simpa using dpS_nil⟩⟩, ?_⟩
    rintro m ys Hd ⟨i, t, hi, rfl, rfl, ht⟩
    have ct := dpS_cell ht
    have hs2 : Abs.sub Hb Hd := sub_trans hs1 ht.sub
    simp
    refine ⟨fun hlt => ?_, fun hge => ?_⟩
    · have hz := le_sumF (f := szw) hlt
      have hz' : szw a.wires[i] = a.wires[i].2.2.links.length + a.wires[i].2.2.stubs.length := rfl
      refine rdS_idx ((wiresT false).mono g3 hs2) (by omega) (by simpa using hlt) fun p row hp hr => ?_
      simp only [Int.toNat_natCast] at hr
      obtain ⟨r, rfl, hr⟩ := hr
      rw [hp.ld]
      have hr3' := hr
      obtain ⟨l, s, rfl, e1, e2⟩ := hr
      have hcc := lsa_cell e1 e2
      simp [stz_eq, putCells, hcc, ct]
      refine C_i_ownLsa (c := c) hr3' (by omega) fun us H2 hus => ?_
      have hw := Dp.msg (x := a.wires[i].1) (y := a.wires[i].2.1) hus
      obtain ⟨l', s', Hm, rfl, w1, w2⟩ := lsa_dp hus
      have c1 := w1.cell
      have c2 := w2.cell
      simp [bsl_one, fill_msg, c1, c2, ct]
      intro o2 ho2
      refine dpS_app (T := msgT c) ht hw (sub_fresh ho2) (by simp; omega) fun v' H' H'' ho' hs' => ?_
      have cv := dpS_cell ho'
      simp [stz_eq, putCells, cv]
      rw [i64_in (by omega) (by omega)]
      refine ⟨a.wires.length - (i + 1), by omega, H'', hs', i + 1, v', by omega, by simp, rfl, ?_⟩
      rw [List.take_succ_eq_append_getElem hlt]
      exact ho'
    · have : i = a.wires.length := by omega
      subst this
      rw [List.take_length] at ht
      simp [stz_eq, putCells, c0, cu, ct]
      exact Ret.dp (f := V.agg) (Dp.net (a := a) hu0 hu ht) hs h
end Go.Proofs.YtmbekckgpbmdkaaGreat
