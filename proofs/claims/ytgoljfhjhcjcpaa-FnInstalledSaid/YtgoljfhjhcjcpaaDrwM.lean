/-
Contracts of the draws of advertisements.
-/
import Derived.Test.YtgoljfhjhcjcpaaDrawQ
import Derived.Test.YtgoljfhjhcjcpaaPutR
import Derived.Test.YtgoljfhjhcjcpaaLsaC
import Derived.Test.YtgoljfhjhcjcpaaGraphA
import Derived.Test.YtgoljfhjhcjcpaaMergeC
import Derived.Test.YtgoljfhjhcjcpaaSumC
import Derived.Test.YtgoljfhjhcjcpaaTakeA
set_option linter.all false
namespace Go.Proofs.Ytgoljfhjhcjcpaa
open Go Go.Abs Go.Proofs

theorem psz_pos (len : Int) : psz len ≠ 0 := by
  unfold psz
  have : (0 : Int) < 2 ^ (16 - len).toNat := Int.pow_pos (by omega)
  omega
set_option maxHeartbeats 2000000 in
theorem C_w_l01DrawPrefix {o : Nat} {H : Heap} {K : V → Heap → Prop} (hc : IsCur H o) (h : ∀ net len Hd, St H o Hd → K (.agg [.int .i64 net, .int .i64 len]) Hd) : ACalls P n_s_l01DrawPrefix [.ptr o 0 0] H K := by
  apply W_s_l01DrawPrefix
  unfold F_s_l01DrawPrefix
  refine C_s_l01Below hc fun a H1 a0 a1 _ s1 => ?_
  refine C_s_l01Below s1.1 fun b H2 b0 b1 _ s2 => ?_
  have s2 := s1.trans s2
  simp
  refine C_s_l01Below s2.1 fun c H3 c0 c1 _ s3 => ?_
  have s3 := s2.trans s3
  simp
  rw [i64_in (n := 8 + b) (by omega) (by omega), i64_in (n := 8 + c) (by omega) (by omega)]
  refine C_pick [0, 1, 4, 8, 12, 15, 16, a, 8 + b, 8 + c] rfl rfl rfl (by simp) (by simp) s3.1 fun n H4 hn s4 => ?_
  have s4 := s3.trans s4
  have hn' : 0 ≤ n ∧ n ≤ 16 := by
    simp only [List.mem_cons, List.not_mem_nil, or_false] at hn
    omega
  refine C_s_l01Below s4.1 fun d H5 _ _ _ s5 => ?_
  have s5 := s4.trans s5
  refine C_s_l01Below s5.1 fun e H6 _ _ _ s6 => ?_
  have s6 := s5.trans s6
  refine C_pick [0, 2560, d, e] rfl rfl rfl (by simp) (by simp) s6.1 fun net H7 _ s7 => ?_
  have s7 := s6.trans s7
  simp [stz_eq, putCells, fillZ]
  refine ⟨noHeap, noHeap_sub _, ?_⟩
  refine C_s_l01Size2 hn' ⟨noHeap_sub _, ?_⟩
  simp [psz_pos]
  refine C_s_l01Once s7.1 fun q H8 s8 => ?_
  have s8 := s7.trans s8
  simp [stz_eq, putCells]
  refine ⟨fun _ => ?_, fun _ => Ret.of (h _ _ _ s8)⟩
  refine C_s_l01Below s8.1 fun k H9 _ _ _ s9 => ?_
  have s9 := s8.trans s9
  simp [stz_eq, putCells]
  refine ⟨fun _ => ?_, fun _ => ⟨fun _ => ?_, fun _ => ⟨fun _ => Ret.of (h _ _ _ s9), fun _ => Ret.of (h _ _ _ s9)⟩⟩⟩
  · refine C_pick [-1, 17, 3] rfl rfl rfl (by simp) (by simp) s9.1 fun y H10 _ s10 => ?_
    simp [stz_eq, putCells]
    exact Ret.of (h _ _ _ (s9.trans s10))
  · refine C_pick [-1, 65536, 1, 65535] rfl rfl rfl (by simp) (by simp) s9.1 fun y H10 _ s10 => ?_
    simp [stz_eq, putCells]
    exact Ret.of (h _ _ _ (s9.trans s10))

def InvDl (H : Heap) (o : Nat) (n : Int) (m : Nat) (ys : List V) (Hc : Heap) : Prop :=
  ∃ (i : Nat) (u : V) (ls : List TLink), (i : Int) ≤ max n 0 ∧ ys = [u, .int .i64 (i : Nat)] ∧ m = n.toNat - i ∧ ls.length ≤ i ∧ Hx H o 2 (ls.map enLink) u Hc
set_option maxHeartbeats 1000000 in
theorem C_w_l05DrawLinks {o : Nat} {og n : Int} {H : Heap} {K : V → Heap → Prop} (hc : IsCur H o) (hn : n ≤ 10) (h : ∀ (ls : List TLink) u Hd, ls.length ≤ 10 → Hx H o 2 (ls.map enLink) u Hd → K u Hd) : ACalls P n_s_l05DrawLinks [.ptr o 0 0, .int .i64 og, .int .i64 n] H K := by
  apply W_s_l05DrawLinks
  unfold F_s_l05DrawLinks
  simp [bsl_nil]
  intro o2 ho2
  refine ⟨InvDl H o n, ⟨n.toNat, Shr.of ⟨0, _, [], by omega, rfl, by omega, by simp, ⟨H, St.grow hc (Abs.sub_refl _), Held.new ho2⟩⟩⟩, ?_⟩
  rintro m ys Hc ⟨i, u, ls, hi, rfl, rfl, hlen, hu⟩
  simp
  refine ⟨fun hlt => ?_, fun hge => Ret.of (h ls u Hc (by omega) hu)⟩
  rw [i64_in (n := (i : Int) + 1) (by omega) (by omega)]
  have next : ∀ (ls' : List TLink) (u' : V) (H' : Heap), ls'.length ≤ i + 1 → Hx H o 2 (ls'.map enLink) u' H' → ∃ n6, n6 < n.toNat - i ∧ Shr (InvDl H o n n6 [u', .int .i64 ((i : Int) + 1)]) H' := fun ls' u' H' h1 h2 =>
    ⟨n.toNat - (i + 1), by omega, Shr.of ⟨i + 1, u', ls', by omega, by simp, rfl, h1, h2⟩⟩
  refine ⟨fun _ => ?_, fun _ => next ls u Hc (by omega) hu⟩
  refine C_s_l01Below (hx_cur hu) fun x H1 _ _ _ s1 => ?_
  have hu1 := hx_step hu s1
  simp
  refine ⟨fun _ => ?_, fun _ => next ls u H1 (by omega) hu1⟩
  refine C_s_l01Below s1.1 fun y H2 y0 y1 _ s2 => ?_
  have hu2 := hx_step hu1 s2
  simp
  rw [i64_in (n := 1 + y) (by omega) (by omega)]
  refine C_pick [1, 2, 3, 1 + y, 1000] rfl rfl rfl (by simp) (by simp) s2.1 fun z H3 _ s3 => ?_
  have hu3 := hx_step hu2 s3
  have hb1 : bsl 2 1 [V.int .i64 0, .int .i64 0] [(0, .agg [.int .i64 (i : Int), .int .i64 z])] = some [enLink ((i : Int), z)] := rfl
  simp [fillZ, putCells, hb1]
  intro o7 ho7
  obtain ⟨Hb, g1, g2⟩ := hu3
  refine g2.append (sub_fresh ho7) (by simp) (by simp; omega) fun v' H' H'' ho' hs' => ?_
  exact next (ls ++ [((i : Int), z)]) v' H' (by simp; omega) (hx_grow ⟨Hb, g1, by rw [List.map_append]; exact ho'⟩ hs')

def InvDs1 (H : Heap) (o : Nat) (n : Int) (m : Nat) (ys : List V) (Hc : Heap) : Prop :=
  ∃ (i : Nat) (u : V) (t : List TStub), (i : Int) ≤ max n 0 ∧ ys = [.box [u], .int .i64 (i : Nat)] ∧ m = n.toNat - i ∧ t.length ≤ i ∧ St H o Hc ∧ Rd (Abs.del Hc o) 3 u (t.map enStub)
def InvDs2 (H : Heap) (t : List TStub) (m : Nat) (ys : List V) (Hc : Heap) : Prop :=
  ∃ (i : Nat) (u : V), i ≤ t.length ∧ ys = [u, .int .i64 (i : Nat)] ∧ m = t.length - i ∧ Held H 3 ((t.take i).map enStub) u Hc
set_option maxHeartbeats 2000000 in
theorem C_w_l05DrawStubs {o : Nat} {n : Int} {H : Heap} {K : V → Heap → Prop} (hc : IsCur H o) (hn : n ≤ 10) (h : ∀ (ss : List TStub) u Hd, ss.length ≤ 10 → Hx H o 3 (ss.map enStub) u Hd → K u Hd) : ACalls P n_s_l05DrawStubs [.ptr o 0 0, .int .i64 n] H K := by
  apply W_s_l05DrawStubs
  unfold F_s_l05DrawStubs
  simp [stz_eq, putCells, fillZ, bsl_nil]
  refine ⟨InvDs1 H o n, ⟨n.toNat, Shr.of ⟨0, .nils, [], by omega, rfl, by omega, by simp, St.grow hc (Abs.sub_refl _), Rd.nils⟩⟩, ?_⟩
  rintro m ys Hc ⟨i, u, t, hi, rfl, rfl, hlen, st, hu⟩
  have cu := hu.cell
  simp
  refine ⟨fun hlt => ?_, fun hge => ?_⟩
  · rw [i64_in (n := (i : Int) + 1) (by omega) (by omega)]
    refine C_w_l01DrawPrefix st.1 fun net len H1 s1 => ?_
    have st1 := st.trans s1
    simp [stz_eq, putCells]
    have put : ∀ (net len : Int) (H2 : Heap), St Hc o H2 → ∃ S, Abs.sub S H2 ∧ ACalls P n_s_l01Below [.ptr o 0 0, .int .i64 9] H2 fun v23 H24 => Abs.sub S H24 ∧ bnd (aBinN .add (.int .i64 1) v23) fun t25 =>
        bnd (fillZ [(.int .i64 0), (.int .i64 0), (.int .i64 0)] [(0, 2, .agg [.int .i64 net, .int .i64 len]), (2, 1, t25)]) fun c26 => ACalls P n_s_PutRoute [.agg [u], (.agg c26)] H24 fun v27 H28 => Abs.sub S H28 ∧
        bnd (aExtract 0 v27) fun t29 => bnd (aExtract 1 v27) fun _ => bnd (stz 1 [u] 0 t29) fun c31 => ∃ n6, n6 < n.toNat - i ∧ Shr (InvDs1 H o n n6 [.box c31, .int .i64 ((i : Int) + 1)]) H28 := fun net len H2 s2 => by
      refine ⟨noHeap, noHeap_sub _, ?_⟩
      refine C_s_l01Below s2.1 fun x H3 x0 x1 _ s3 => ⟨noHeap_sub _, ?_⟩
      have s3 := s2.trans s3
      have hu3 := hu.mono (St.del s3)
      simp [fillZ, putCells]
      refine C_s_PutRoute (t := t) (k := (net, len, IntKind.i64.wrap (1 + x))) (hu3.mono del_sub) (by omega) fun w H4 h4 => ⟨noHeap_sub _, ?_⟩
      have c4 := h4.cell
      simp [stz_eq, putCells, c4]
      have hx4 : Hx Hc o 3 ((putT t (net, len, IntKind.i64.wrap (1 + x))).1.map enStub) w H4 := ⟨H3, s3, h4⟩
      have hl4 := putT_len t (net, len, IntKind.i64.wrap (1 + x))
      exact ⟨n.toNat - (i + 1), by omega, Shr.of ⟨i + 1, w, _, by omega, by simp, rfl, by omega, st.trans (hx_st hx4), hx_rc hx4 enStub_len⟩⟩
    simp [fillZ, putCells, stz_eq, cu] at put
    refine C_s_l01Once st1.1 fun q H2 s2 => ?_
    have s2 := s1.trans s2
    simp
    refine ⟨fun _ => ?_, fun _ => ?_⟩
    · refine C_s_l01Below s2.1 fun x H3 x0 x1 _ s3 => ?_
      simp [fillZ, putCells, stz_eq]
      have := put (IntKind.i64.wrap (256 * x)) 8 H3 (s2.trans s3)
      simpa [fillZ, putCells, stz_eq, cu] using this
    · have := put net len H2 s2
      simpa [fillZ, putCells, stz_eq, cu] using this
  · intro o5 ho5
    refine ⟨InvDs2 Hc t, ⟨t.length, Shr.of ⟨0, _, by omega, rfl, by omega, Held.new ho5⟩⟩, ?_⟩
    rintro m ys Hd ⟨j, w, hj, rfl, rfl, hw⟩
    simp [hu.len]
    refine ⟨fun hlt => ?_, fun hge => ?_⟩
    · have hst2 : Abs.sub (Abs.del Hc o) Hd := sub_trans del_sub hw.sub
      have hgd : (t.map enStub).getD j [] = enStub t[j] := by simp [hlt]
      refine (hu.mono hst2).idx (by omega) (by simpa using hlt) fun p hp => ?_
      simp only [Int.toNat_natCast, hgd] at hp
      refine hp.fld fun p1 hp1 => ?_
      rw [hp1.ld]
      simp
      refine (hu.mono hst2).idx (by omega) (by simpa using hlt) fun p hp => ?_
      simp only [Int.toNat_natCast, hgd] at hp
      refine hp.fld fun p1 hp1 => ?_
      rw [hp1.ld]
      have hb1 : bsl 3 1 [V.int .i64 0, .int .i64 0, .int .i64 0] [(0, .agg [.int .i64 t[j].1, .int .i64 t[j].2.1, .int .i64 t[j].2.2])] = some [enStub t[j]] := rfl
      simp [fillZ, putCells, hb1]
      intro o7 ho7
      refine hw.append (sub_fresh ho7) (by simp) (by simp; omega) fun v' H' H'' ho' hs' => ?_
      rw [i64_in (n := (j : Int) + 1) (by omega) (by omega)]
      refine ⟨t.length - (j + 1), by omega, H'', hs', j + 1, v', by omega, by simp, rfl, ?_⟩
      rw [List.take_succ_eq_append_getElem hlt, List.map_append]
      exact ho'
    · have e : j = t.length := by omega
      subst e
      rw [List.take_length] at hw
      exact Ret.of (h t w Hd (by omega) ⟨Hc, st, hw⟩)

/-! #### advertisements -/
def small (a : TLsa) : Prop := a.links.length ≤ 40 ∧ a.stubs.length ≤ 40
set_option maxHeartbeats 1000000 in
theorem C_w_l05DrawLsa {o : Nat} {og n : Int} {H : Heap} {K : V → Heap → Prop} (hc : IsCur H o) (hn : n ≤ 10) (h : ∀ (a : TLsa) us Hd, a.origin = og → a.links.length ≤ 10 ∧ a.stubs.length ≤ 10 → Dq (lsaT false) H o a us Hd → K (.agg us) Hd) : ACalls P n_s_l05DrawLsa [.ptr o 0 0, .int .i64 og, .int .i64 n] H K := by
  apply W_s_l05DrawLsa
  unfold F_s_l05DrawLsa
  refine C_s_l01Below hc fun a H1 _ _ _ s1 => ?_
  simp
  refine C_s_l01Below s1.1 fun b H2 _ _ _ s2 => ?_
  have s2 := s1.trans s2
  refine C_s_l01Below s2.1 fun c H3 _ _ _ s3 => ?_
  have s3 := s2.trans s3
  refine C_pick [0, 0, b, c, 60] rfl rfl rfl (by simp) (by simp) s3.1 fun d H4 _ s4 => ?_
  have s4 := s3.trans s4
  refine C_w_l05DrawLinks s4.1 hn fun ls l H5 l5 h5 => ?_
  refine C_s_l01Below (hx_cur h5) fun e H6 e0 e1 _ s6 => ?_
  have h6 := hx_step h5 s6
  refine C_w_l05DrawStubs s6.1 (by omega) fun ss s H7 l7 h7 => ?_
  obtain ⟨Hb, g1, g2⟩ := h6
  have cl := g2.cell
  have cs := (hx_rc h7 enStub_len).cell
  simp [stz_eq, putCells, fillZ, cl, cs]
  have hd := dq_lsa (b := false) (a := ⟨og, IntKind.i64.wrap (1 + a), d, ls, ss⟩) (Hs := H) (o := o) ⟨Hb, s4.trans g1, g2⟩ h7
  exact Ret.of (h ⟨og, IntKind.i64.wrap (1 + a), d, ls, ss⟩ _ H7 rfl ⟨l5, l7⟩ hd)

def InvBd5 (H : Heap) (o : Nat) (a : TLsa) (m : Nat) (ys : List V) (Hc : Heap) : Prop :=
  ∃ (i : Nat) (a' : TLsa) (l s : V), i ≤ 7 ∧ ys = [.box [.int .i64 0, .int .i64 0, .int .i64 0, .nils, .nils], .box (lsaRow a' l s), .int .i64 (i : Nat)] ∧ m = 7 - i ∧ a'.links.length ≤ a.links.length + 7 ∧ a'.stubs.length ≤ a.stubs.length + i ∧ Dq (lsaT false) H o a' (lsaRow a' l s) Hc
set_option maxHeartbeats 4000000 in
theorem C_w_l05Bend {o : Nat} {b : Bool} {a : TLsa} {vs : List V} {H : Heap} {K : V → Heap → Prop} (hc : IsCur H o) (hv : (lsaT b).rd H a vs) (hl : a.links.length ≤ 100 ∧ a.stubs.length ≤ 100)
    (h : ∀ (a' : TLsa) us Hd, a'.links.length ≤ a.links.length + 7 ∧ a'.stubs.length ≤ a.stubs.length + 7 → Dq (lsaT false) H o a' us Hd → K (.agg us) Hd) : ACalls P n_s_l05Bend [.ptr o 0 0, .agg vs] H K := by
  obtain ⟨l0, s0, rfl, r1, r2⟩ := hv
  have c1 := r1.1.cell
  have c2 := r2.1.cell
  apply W_s_l05Bend
  unfold F_s_l05Bend
  simp [c1, c2]
  refine C_s_l05Copy (c := false) ⟨l0, s0, rfl, r1, r2⟩ (by omega) fun us H1 h1 => ?_
  have hd := Dq.of (o := o) (St.grow hc (Abs.sub_refl _)) h1
  obtain ⟨l, s, rfl, cl, cs⟩ := dq_cell hd
  simp [stz_eq, putCells, cl, cs]
  have fin : ∀ (a' : TLsa) (l' s' : V) (H' : Heap), a'.links.length ≤ a.links.length + 7 ∧ a'.stubs.length ≤ a.stubs.length + 7 → Dq (lsaT false) H o a' (lsaRow a' l' s') H' → Ret K (.agg [.int .i64 a'.origin, .int .i64 a'.seq, .int .i64 a'.age, l', s']) H' := fun a' l' s' H' hl' hd' => Ret.of (h a' _ H' hl' hd')
  refine C_s_l01Below hd.cur fun k H2 _ _ _ s2 => ?_
  have hd2 := hd.step s2
  simp
  refine ⟨fun _ => ?_, fun _ => ⟨fun _ => ?_, fun _ => ⟨fun _ => ?_, fun _ => ⟨fun _ => ?_, fun _ => ⟨fun _ => ?_, fun _ => ⟨fun _ => ?_, fun _ => fin a l s H2 (by omega) hd2⟩⟩⟩⟩⟩⟩
  · refine C_pick [-1, 10, 9, 0] rfl rfl rfl (by simp) (by simp) hd2.cur fun y H3 _ s3 => ?_
    simp [stz_eq, putCells, cl, cs]
    exact fin ⟨y, a.seq, a.age, a.links, a.stubs⟩ l s H3 (by simp) (dq_nums (hd2.step s3) y a.seq a.age)
  · refine C_pick [0, 1000000, 1000001] rfl rfl rfl (by simp) (by simp) hd2.cur fun y H3 _ s3 => ?_
    simp [stz_eq, putCells, cl, cs]
    exact fin ⟨a.origin, y, a.age, a.links, a.stubs⟩ l s H3 (by simp) (dq_nums (hd2.step s3) a.origin y a.age)
  · refine C_pick [-1, 60, 61] rfl rfl rfl (by simp) (by simp) hd2.cur fun y H3 _ s3 => ?_
    simp [stz_eq, putCells, cl, cs]
    exact fin ⟨a.origin, a.seq, y, a.links, a.stubs⟩ l s H3 (by simp) (dq_nums (hd2.step s3) a.origin a.seq y)
  · refine C_s_l01Below hd2.cur fun x H3 _ _ _ s3 => ?_
    have hd3 := hd2.step s3
    refine C_pick [1, 0, 1000, 1001] rfl rfl rfl (by simp) (by simp) hd3.cur fun y H4 _ s4 => ?_
    have hd4 := hd3.step s4
    have hb1 : bsl 2 1 [V.int .i64 0, .int .i64 0] [(0, .agg [.int .i64 x, .int .i64 y])] = some [enLink (x, y)] := rfl
    simp [fillZ, putCells, hb1]
    intro o5 ho5
    refine dq_links (x := (x, y)) hd4 (sub_fresh ho5) (by omega) fun l' H' hd' cl' => ?_
    simp [stz_eq, putCells, cl', cs]
    exact fin { a with links := a.links ++ [(x, y)] } l' s H' (by simp) hd'
  · refine C_w_l01DrawPrefix hd2.cur fun net len H3 s3 => ?_
    have hd3 := hd2.step s3
    refine C_pick [1, 0, 1000, 1001] rfl rfl rfl (by simp) (by simp) hd3.cur fun y H4 _ s4 => ?_
    have hd4 := hd3.step s4
    have hb1 : bsl 3 1 [V.int .i64 0, .int .i64 0, .int .i64 0] [(0, .agg [.int .i64 net, .int .i64 len, .int .i64 y])] = some [enStub (net, len, y)] := rfl
    simp [fillZ, putCells, hb1]
    intro o5 ho5
    refine dq_stubs (x := (net, len, y)) hd4 (sub_fresh ho5) (by omega) fun s' H' hd' cs' => ?_
    simp [stz_eq, putCells, cl, cs']
    exact fin { a with stubs := a.stubs ++ [(net, len, y)] } l s' H' (by simp) hd'
  · refine ⟨InvBd5 H o a, ⟨7, Shr.of ⟨0, a, l, s, by omega, rfl, rfl, by omega, by omega, hd2⟩⟩, ?_⟩
    rintro m ys Hc ⟨i, a', l', s', hi, rfl, rfl, k1, k2, hd'⟩
    have cl' : cellsOf l' = [l'] ∧ cellOk l' = true ∧ notAny l' = true := by
      obtain ⟨l3, s3, e, c3, _⟩ := dq_cell hd'
      simp only [lsaRow, List.cons.injEq, and_true, true_and] at e
      rw [e.1]; exact c3
    have cs' : cellsOf s' = [s'] ∧ cellOk s' = true ∧ notAny s' = true := by
      obtain ⟨l3, s3, e, _, c3⟩ := dq_cell hd'
      simp only [lsaRow, List.cons.injEq, and_true, true_and] at e
      rw [e.2]; exact c3
    simp
    rw [i64_in (n := (i : Int) + 1) (by omega) (by omega)]
    refine ⟨fun hlt => ?_, fun hge => ?_⟩
    · generalize IntKind.i64.wrap (64000 + IntKind.i64.wrap (16 * (i : Int))) = net
      generalize IntKind.i64.wrap (12 + (i : Int).tmod 2) = len
      have hb1 : bsl 3 1 [V.int .i64 0, .int .i64 0, .int .i64 0] [(0, .agg [.int .i64 net, .int .i64 len, .int .i64 1])] = some [enStub (net, len, 1)] := rfl
      simp [fillZ, putCells, hb1]
      intro o5 ho5
      refine dq_stubs (x := (net, len, 1)) hd' (sub_fresh ho5) (by omega) fun s2 H' hd2' cs2 => ?_
      simp [stz_eq, putCells, cl', cs2]
      exact ⟨7 - (i + 1), by omega, Shr.of ⟨i + 1, _, l', s2, by omega, by simp, rfl, by simpa using k1, by simp; omega, hd2'⟩⟩
    · simp [stz_eq, putCells, cl', cs']
      exact fin a' l' s' Hc (by omega) hd'

set_option maxHeartbeats 4000000 in
theorem C_w_l05DrawLike {o : Nat} {b : Bool} {a : TLsa} {vs : List V} {H : Heap} {K : V → Heap → Prop} (hc : IsCur H o) (hq : Rq (lsaT b) H o a vs) (hl : a.links.length ≤ 80 ∧ a.stubs.length ≤ 80)
    (h : ∀ (a' : TLsa) us Hd, a'.links.length ≤ a.links.length + 10 ∧ a'.stubs.length ≤ a.stubs.length + 10 → Dq (lsaT false) H o a' us Hd → K (.agg us) Hd) : ACalls P n_s_l05DrawLike [.ptr o 0 0, .agg vs] H K := by
  have hv := hq.rd
  obtain ⟨l0, s0, rfl, r1, r2⟩ := hv
  have c1 := r1.1.cell
  have c2 := r2.1.cell
  apply W_s_l05DrawLike
  unfold F_s_l05DrawLike
  simp [c1, c2]
  refine C_s_l05Copy (c := false) ⟨l0, s0, rfl, r1, r2⟩ (by omega) fun us H1 h1 => ?_
  have hd := Dq.of (o := o) (St.grow hc (Abs.sub_refl _)) h1
  obtain ⟨l, s, rfl, cl, cs⟩ := dq_cell hd
  simp [stz_eq, putCells, cl, cs]
  have fin : ∀ (a' : TLsa) (l' s' : V) (H' : Heap), a'.links.length ≤ a.links.length + 10 ∧ a'.stubs.length ≤ a.stubs.length + 10 → Dq (lsaT false) H o a' (lsaRow a' l' s') H' → Ret K (.agg [.int .i64 a'.origin, .int .i64 a'.seq, .int .i64 a'.age, l', s']) H' := fun a' l' s' H' hl' hd' => Ret.of (h a' _ H' hl' hd')
  refine C_s_l01Below hd.cur fun k H2 _ _ _ s2 => ?_
  have hd2 := hd.step s2
  simp
  refine ⟨fun _ => ?_, fun _ => ⟨fun _ => ?_, fun _ => ⟨fun _ => ?_, fun _ => ⟨fun _ => ?_, fun _ => ⟨fun _ => ?_, fun _ => fin a l s H2 (by omega) hd2⟩⟩⟩⟩⟩
  · refine C_s_l01Below hd2.cur fun x H3 _ _ _ s3 => ?_
    simp [stz_eq, putCells, cl, cs]
    exact fin ⟨a.origin, IntKind.i64.wrap (1 + x), a.age, a.links, a.stubs⟩ l s H3 (by simp) (dq_nums (hd2.step s3) a.origin _ a.age)
  · refine ⟨noHeap, noHeap_sub _, ?_⟩
    refine C_s_l01Below hd2.cur fun x H3 _ _ _ s3 => ⟨noHeap_sub _, ?_⟩
    have hd3 := hd2.step s3
    have := C_pick (o := o) (H := H3) (z := [.int .i64 0]) (n := 6) (m := 6) (ps := [(0, .int .i64 0), (1, .int .i64 60), (2, .int .i64 59), (3, .int .i64 (IntKind.i64.wrap (a.age + 10))), (4, .int .i64 (IntKind.i64.wrap (a.age + 11))), (5, .int .i64 x)])
      (K := fun v25 H26 => Abs.sub noHeap H26 ∧ bnd (stz 1 (lsaRow a l s) 2 v25) fun c27 => bnd (partOf true 5 c27 0) fun t28 => bnd (stz 5 [(.int .i64 0), (.int .i64 0), (.int .i64 0), .nils, .nils] 0 t28) fun c29 => bnd (partOf true 5 c29 0) fun t30 => Ret K t30 H26)
      [0, 60, 59, IntKind.i64.wrap (a.age + 10), IntKind.i64.wrap (a.age + 11), x] rfl rfl rfl (by simp) (by simp) hd3.cur fun y H4 _ s4 => by
        refine ⟨noHeap_sub _, ?_⟩
        simp [stz_eq, putCells, cl, cs]
        exact fin ⟨a.origin, a.seq, y, a.links, a.stubs⟩ l s H4 (by simp) (dq_nums (hd3.step s4) a.origin a.seq y)
    have eb : bsl 1 6 [V.int .i64 0] [(0, .int .i64 0), (1, .int .i64 60), (2, .int .i64 59), (3, .int .i64 (IntKind.i64.wrap (a.age + 10))), (4, .int .i64 (IntKind.i64.wrap (a.age + 11))), (5, .int .i64 x)] = some (([0, 60, 59, IntKind.i64.wrap (a.age + 10), IntKind.i64.wrap (a.age + 11), x] : List Int).map ri) := rfl
    rw [eb] at this ⊢
    simp only [bnd_some] at this ⊢
    intro o4 ho4
    exact ⟨noHeap_sub _, this o4 ho4⟩
  · refine C_w_l05DrawLsa hd2.cur (by omega) fun a' us' H3 ho hl' hd3 => ?_
    have hd3' := Dq.from hd2.st hd3
    obtain ⟨l', s', rfl, cl', cs'⟩ := dq_cell hd3'
    simp [stz_eq, putCells, cl', cs']
    exact fin a' l' s' H3 (by omega) hd3'
  · skip
    refine fin { a with links := [] } .nils s H2 (by simp) ?_
    obtain ⟨Hb, g1, g2⟩ := hd2
    obtain ⟨l3, s3, Hm, e, k1, k2⟩ := lsa_dp g2
    simp only [lsaRow, List.cons.injEq, and_true, true_and] at e
    obtain ⟨rfl, rfl⟩ := e
    exact ⟨Hm, g1.more k1.sub, Dp.lsa (a := { a with links := [] }) (by simpa using Held.nil) k2⟩
  · have hq2 := hq.st hd2.st
    refine C_w_l05Bend hd2.cur hq2.rd (by omega) fun a' us' H3 hl' hd3 => ?_
    have hd3' := Dq.from hd2.st hd3
    obtain ⟨l', s', rfl, cl', cs'⟩ := dq_cell hd3'
    simp [stz_eq, putCells, cl', cs']
    exact fin a' l' s' H3 (by omega) hd3'
theorem C_w_l05DrawOne {v : V} {bs : List (List V)} {H : Heap} {K : V → Heap → Prop} (hv : Rd H 1 v bs) (hb : Bs bs) (hl : bs.length ≤ 9223372036854775807) (hcell : cellsOf v = [v] ∧ cellOk v = true ∧ notAny v = true)
    (h : ∀ o (a : TLsa) us H', IsCur H' o → Abs.sub H (Abs.del H' o) → small a → Rq (lsaT false) H' o a us → K (.tup [.ptr o 0 0, .agg us]) H') : ACalls P n_s_l05DrawOne [v] H K := by
  apply W_s_l05DrawOne
  unfold F_s_l05DrawOne
  refine C_s_l01New hv hb hl hcell fun o H1 ho hc1 hs1 => ?_
  have low : ∀ {H'}, St H1 o H' → Abs.sub H (Abs.del H' o) := fun {H'} hst => sub_trans (fun i x hi => by
    unfold Abs.del
    rw [if_neg (by rintro rfl; rw [ho] at hi; cases hi)]
    exact hs1 _ _ hi) (St.del hst)
  refine C_s_l01Below hc1 fun k H2 _ _ _ s2 => ?_
  refine C_w_l05DrawLsa s2.1 (by omega) fun a us H3 _ hl3 hd3 => ?_
  have hd := Dq.from s2 hd3
  obtain ⟨l, s, rfl, cl, cs⟩ := dq_cell hd
  simp [stz_eq, putCells, cl, cs]
  refine C_s_l01Once hd.cur fun q H4 s4 => ?_
  have hd4 := hd.step s4
  simp
  refine ⟨fun _ => ?_, fun _ => ⟨⟨noHeap, noHeap_sub _⟩, Ret.of (h o a (lsaRow a l s) H4 hd4.cur (low hd4.st) ⟨by omega, by omega⟩ hd4.rq)⟩⟩
  refine C_w_l05Bend hd4.cur hd4.rq.rd (by omega) fun a' us' H5 hl5 hd5 => ?_
  have hd5' := Dq.from hd4.st hd5
  obtain ⟨l', s', rfl, cl', cs'⟩ := dq_cell hd5'
  simp [stz_eq, putCells, cl', cs']
  exact ⟨⟨noHeap, noHeap_sub _⟩, Ret.of (h o a' (lsaRow a' l' s') H5 hd5'.cur (low hd5'.st) ⟨by omega, by omega⟩ hd5'.rq)⟩
theorem C_w_DrawNewer {v : V} {bs : List (List V)} {H : Heap} {K : V → Heap → Prop} (hv : Rd H 1 v bs) (hb : Bs bs) (hl : bs.length ≤ 9223372036854775807) (hcell : cellsOf v = [v] ∧ cellOk v = true ∧ notAny v = true)
    (h : ∀ (a b : TLsa) us vs H', Abs.sub H H' → a.links.length ≤ 100 ∧ a.stubs.length ≤ 100 → b.links.length ≤ 100 ∧ b.stubs.length ≤ 100 → (lsaT false).rd H' a us → (lsaT false).rd H' b vs → K (.tup [.agg us, .agg vs]) H') : ACalls P n_s_DrawNewer [v] H K := by
  apply W_s_DrawNewer
  unfold F_s_DrawNewer
  refine C_w_l05DrawOne hv hb hl hcell fun o a us H1 hc1 hs1 hsm hq => ?_
  obtain ⟨l, s, rfl, r1, r2⟩ := hq.rd
  have cl := r1.1.cell
  have cs := r2.1.cell
  obtain ⟨k1, k2⟩ := hsm
  simp [stz_eq, putCells, cl, cs]
  refine ⟨noHeap, noHeap_sub _, ?_⟩
  refine C_w_l05DrawLike hc1 hq (by omega) fun b vs H2 hl2 hd2 => ⟨noHeap_sub _, ?_⟩
  obtain ⟨l', s', rfl, cl', cs'⟩ := dq_cell hd2
  simp [stz_eq, putCells, cl', cs']
  exact Ret.of (h a b _ _ H2 (sub_trans hs1 (St.low hd2.st)) (by omega) (by omega) (hq.st hd2.st).rd hd2.rq.rd)

end Go.Proofs.Ytgoljfhjhcjcpaa
/-
Contracts of the draws of graphs beside advertisements.
-/
namespace Go.Proofs.Ytgoljfhjhcjcpaa
open Go Go.Abs Go.Proofs

def InvWp (e : TEdge) (es : List TEdge) (H : Heap) (m : Nat) (ys : List V) (Hc : Heap) : Prop :=
  ∃ (i : Nat) (d : Bool) (u : V) (out : List TEdge), i ≤ es.length ∧ ys = [.box (enEdge e), u, .bool d, .int .i64 (i : Nat)] ∧ m = es.length - i ∧ out.length ≤ i + (if d then 1 else 0) ∧ Held H 3 (out.map enEdge) u Hc
def JWp1 (H : Heap) (ys : List V) (Hc : Heap) : Prop := ∃ b, ys = [.bool b] ∧ Hc = H
def JWp2 (d : Bool) (i : Nat) (H : Heap) (ys : List V) (Hc : Heap) : Prop :=
  ∃ (u : V) (d' : Bool) (out : List TEdge), ys = [u, .bool d'] ∧ out.length ≤ i + (if d' then 1 else 0) ∧ Held H 3 (out.map enEdge) u Hc
set_option maxHeartbeats 2000000 in
theorem C_w_l03Put {e : TEdge} {es : List TEdge} {v : V} {H : Heap} {K : V → Heap → Prop} (hv : Rd H 3 v (es.map enEdge)) (hl : es.length ≤ 1000)
    (h : ∀ (es' : List TEdge) u H', es'.length ≤ es.length + 1 → Held H 3 (es'.map enEdge) u H' → K u H') : ACalls P n_s_l03Put [v, .agg (enEdge e)] H K := by
  apply W_s_l03Put
  unfold F_s_l03Put
  have hb0 : bsl 3 0 [V.int .i64 0, .int .i64 0, .int .i64 0] [] = some [] := rfl
  simp [hb0, bsl_one]
  intro o2 ho2
  refine ⟨InvWp e es H, ⟨es.length, Shr.of ⟨0, false, .slice o2 0 0 (some 0), [], by omega, rfl, by omega, by simp, Held.new ho2⟩⟩, ?_⟩
  rintro m ys Hc ⟨i, d, u, out, hi, rfl, rfl, hlen, hu⟩
  simp [hv.len]
  refine ⟨fun hlt => ?_, fun hge => ?_⟩
  · have hgd : (es.map enEdge).getD i [] = enEdge es[i] := by simp [hlt]
    refine (hv.mono hu.sub).idx (by omega) (by simpa using hlt) fun p hpp => ?_
    simp only [Int.toNat_natCast, hgd] at hpp
    rw [hpp.ld]
    simp [stz_eq, putCells]
    refine ⟨JWp2 d i H, ?_, ?_⟩
    · refine ⟨fun ys Hd => (∃ b, ys = [.bool b] ∧ (b = true → d = false)) ∧ Hd = Hc, ?_, ?_⟩
      · refine ⟨fun q => ⟨fun q1 => ?_, fun q1 => ⟨fun q2 => ?_, fun q2 => ?_⟩⟩, fun q => ?_⟩
        all_goals exact Shr.of ⟨⟨_, rfl, by simp_all⟩, rfl⟩
      · rintro ys Hd ⟨⟨b, rfl, hb⟩, rfl⟩
        simp [bsl_one]
        refine ⟨fun q => ?_, fun q => ?_⟩
        · intro o7 ho7
          have hd := hb q
          subst hd
          refine hu.append (sub_fresh ho7) (by simp) (by simp at hlen ⊢; omega) fun v' H' H'' ho' hs' => ?_
          refine ⟨H'', hs', v', true, out ++ [e], rfl, by simp at hlen ⊢; omega, by simpa using ho'⟩
        · exact Shr.of ⟨u, d, out, rfl, hlen, hu⟩
    · rintro ys Hd ⟨u2, d2, out2, rfl, hl2, hu2⟩
      simp [bsl_one]
      rw [i64_in (n := (i : Int) + 1) (by omega) (by omega)]
      have hl3 : out2.length ≤ i + 1 := by split at hl2 <;> omega
      have add : ∀ (o7 : Nat), Hd o7 = none → appendK (upd Hd o7 ⟨3, [enEdge es[i]]⟩) 3 24 u2 [enEdge es[i]] fun v47 H48 =>
          ∃ n6, n6 < es.length - i ∧ Shr (InvWp e es H n6 [.box (enEdge e), v47, .bool d2, .int .i64 ((i : Int) + 1)]) H48 := fun o7 ho7 => by
        refine hu2.append (sub_fresh ho7) (by simp) (by simp; omega) fun v' H' H'' ho' hs' => ?_
        exact ⟨es.length - (i + 1), by omega, H'', hs', i + 1, d2, v', out2 ++ [es[i]], by omega, by simp, rfl, by simp; omega, by simpa using ho'⟩
      refine ⟨fun _ => add, fun _ => ⟨fun _ => add, fun _ => ?_⟩⟩
      exact ⟨es.length - (i + 1), by omega, Shr.of ⟨i + 1, d2, u2, out2, by omega, by simp, rfl, by omega, hu2⟩⟩
  · have : i = es.length := by omega
    subst this
    refine ⟨fun q => ?_, fun q => ?_⟩
    · intro o7 ho7
      subst q
      refine hu.append (sub_fresh ho7) (by simp) (by simp at hlen ⊢; omega) fun v' H' H'' ho' hs' => ?_
      exact Ret.shr (h (out ++ [e]) _ _ (by simp at hlen ⊢; omega) (by simpa using ho')) rfl hs'
    · subst q
      exact Ret.of (h out _ _ (by simpa using hlen) hu)


theorem edge_row (es : List TEdge) : ∀ r ∈ es.map enEdge, r.length = 3 := by
  intro r hr
  obtain ⟨e, _, rfl⟩ := List.mem_map.1 hr
  rfl
theorem w_put {o : Nat} {e : TEdge} {es : List TEdge} {v : V} {Hs H : Heap} {K : V → Heap → Prop} (hu : Hx Hs o 3 (es.map enEdge) v H) (hl : es.length ≤ 1000)
    (h : ∀ (es' : List TEdge) u H', es'.length ≤ es.length + 1 → Hx Hs o 3 (es'.map enEdge) u H' → (cellsOf u = [u] ∧ cellOk u = true ∧ notAny u = true) → K u H') : ACalls P n_s_l03Put [v, .agg (enEdge e)] H K :=
  C_w_l03Put (Rd.mono (hx_rc hu (edge_row es)) del_sub) hl fun es' u H' h1 h2 => h es' u H' h1 ⟨H, hx_st hu, h2⟩ h2.cell
def InvDgr (H : Heap) (o : Nat) (n k : Int) (m : Nat) (ys : List V) (Hc : Heap) : Prop :=
  ∃ (i : Nat) (u : V) (es : List TEdge), i ≤ k.toNat ∧ ys = [.box [.int .i64 0, .nils], .box [.int .i64 n, u], .int .i64 (i : Nat)] ∧ m = k.toNat - i ∧ es.length ≤ 60 ∧ Hx H o 3 (es.map enEdge) u Hc
def JDgr (H : Heap) (o : Nat) (n : Int) (u : V) (es : List TEdge) (ys : List V) (Hc : Heap) : Prop :=
  ∃ x y z : Int, ys = [.box [.int .i64 0, .nils], .box [.int .i64 n, u], .box [.int .i64 x, .int .i64 y, .int .i64 z]] ∧ Hx H o 3 (es.map enEdge) u Hc
set_option maxHeartbeats 4000000 in
theorem C_w_l03DrawGraph {o : Nat} {n k : Int} {H : Heap} {K : V → Heap → Prop} (hc : IsCur H o) (hn : 0 ≤ n ∧ n ≤ 100) (hk : 0 ≤ k ∧ k ≤ 1000)
    (h : ∀ (es : List TEdge) u H', es.length ≤ 60 → Hx H o 3 (es.map enEdge) u H' → K (.agg [.int .i64 n, u]) H') : ACalls P n_s_l03DrawGraph [.ptr o 0 0, .int .i64 n, .int .i64 k] H K := by
  apply W_s_l03DrawGraph
  unfold F_s_l03DrawGraph
  simp [stz_eq, putCells, fillZ]
  refine ⟨InvDgr H o n k, ⟨k.toNat, Shr.of ⟨0, _, [], by omega, rfl, by omega, by simp, ⟨H, St.grow hc (Abs.sub_refl _), Held.nil⟩⟩⟩, ?_⟩
  rintro m ys Hc ⟨i, u, es, hi, rfl, rfl, hlen, hu⟩
  have cu := (hx_rc hu (edge_row es)).cell
  have fin : Ret K (.agg [.int .i64 n, u]) Hc := Ret.of (h es u Hc hlen hu)
  simp [stz_eq, putCells, cu]
  rw [i64_in (n := n - 1) (by omega) (by omega), i64_in (n := (i : Int) + 1) (by omega) (by omega)]
  refine ⟨fun hlt => ⟨fun h1 => ?_, fun _ => fin⟩, fun _ => fin⟩
  have next : ∀ (es' : List TEdge) (u' : V) (H' : Heap), es'.length ≤ 60 → Hx H o 3 (es'.map enEdge) u' H' → ∃ n6, n6 < k.toNat - i ∧ Shr (InvDgr H o n k n6 [.box [.int .i64 0, .nils], .box [.int .i64 n, u'], .int .i64 ((i : Int) + 1)]) H' := fun es' u' H' g1 g2 =>
    ⟨k.toNat - (i + 1), by omega, Shr.of ⟨i + 1, u', es', by omega, by simp, rfl, g1, g2⟩⟩
  refine C_s_l01Below (hx_cur hu) fun a H3 a0 a1 _ s3 => ?_
  have hu3 := hx_step hu s3
  refine C_s_l01Below (hx_cur hu3) fun b H4 b0 b1 _ s4 => ?_
  have hu4 := hx_step hu3 s4
  refine C_s_l01Below (hx_cur hu4) fun c H5 c0 c1 _ s5 => ?_
  have hu5 := hx_step hu4 s5
  simp
  rw [i64_in (n := 1 + c) (by omega) (by omega)]
  refine C_pick [1, 1, 2, 2, 3, 5, 1 + c, 1000] rfl rfl rfl (by simp) (by simp) s5.1 fun x H6 _ s6 => ?_
  have hu6 := hx_step hu5 s6
  simp [fillZ, putCells, stz_eq]
  refine ⟨JDgr H o n u es, ?_, ?_⟩
  · refine ⟨fun _ => ?_, fun _ => Shr.of ⟨a, b, x, rfl, hu6⟩⟩
    refine C_s_l01Below (hx_cur hu6) fun d H7 _ _ _ s7 => ?_
    have hu7 := hx_step hu6 s7
    simp
    exact ⟨fun _ => Shr.of ⟨_, _, x, rfl, hu7⟩, fun _ => Shr.of ⟨a, b, x, rfl, hu7⟩⟩
  rintro ys Hd ⟨x, y, z, rfl, hd⟩
  have ed := (hx_rc hd (edge_row es)).len
  simp [stz_eq, putCells, cu, ed]
  refine ⟨fun _ => next _ _ _ hlen hd, fun _ => ⟨fun hl => ?_, fun _ => next _ _ _ hlen hd⟩⟩
  refine w_put (e := (x, y, z)) hd (by omega) fun es7 u7 H7 l7 hu7 c7 => ?_
  simp [stz_eq, putCells, c7]
  refine C_s_l01Below (hx_cur hu7) fun d H8 _ _ _ s8 => ?_
  have hu8 := hx_step hu7 s8
  simp
  refine ⟨fun _ => ?_, fun _ => next _ _ _ (by omega) hu8⟩
  refine C_s_l01Once (hx_cur hu8) fun q H9 s9 => ?_
  have hu9 := hx_step hu8 s9
  simp
  refine ⟨fun _ => ?_, fun _ => ?_⟩
  · refine C_s_l01Below (hx_cur hu9) fun w H10 _ _ _ s10 => ?_
    have hu10 := hx_step hu9 s10
    simp
    refine w_put (e := (y, x, IntKind.i64.wrap (1 + w))) hu10 (by omega) fun es8 u8 H11 l8 hu11 c8 => ?_
    simp [stz_eq, putCells, c8]
    exact next _ _ _ (by omega) hu11
  · refine w_put (e := (y, x, z)) hu9 (by omega) fun es8 u8 H11 l8 hu11 c8 => ?_
    simp [stz_eq, putCells, c8]
    exact next _ _ _ (by omega) hu11

end Go.Proofs.Ytgoljfhjhcjcpaa
/-
Contracts of the draws of databases.
-/
namespace Go.Proofs.Ytgoljfhjhcjcpaa
open Go Go.Abs Go.Proofs

/-- Few records, each of few words. -/
def fits (n : Nat) (xs : List TLsa) : Prop := xs.length ≤ n ∧ ∀ a ∈ xs, a.links.length ≤ 80 ∧ a.stubs.length ≤ 80
theorem fits_sz {n : Nat} {xs : List TLsa} (h : fits n xs) (hn : n ≤ 1000) : bDb xs := by
  obtain ⟨h1, h2⟩ := h
  have : ∀ ys : List TLsa, (∀ a ∈ ys, a.links.length ≤ 80 ∧ a.stubs.length ≤ 80) → sumF szl ys ≤ 160 * ys.length := by
    intro ys
    induction ys with
    | nil => intro _; simp [sumF]
    | cons y ys ih =>
      intro h
      have i1 := ih fun a ha => h a (List.mem_cons_of_mem _ ha)
      have i2 := h y (by simp)
      have e : sumF szl (y :: ys) = szl y + sumF szl ys := by unfold sumF; simp
      rw [e, List.length_cons]
      unfold szl at i1 ⊢
      omega
  have := this xs h2
  unfold bDb
  omega
theorem fits_app {n : Nat} {xs : List TLsa} {a : TLsa} (h : fits n xs) (ha : a.links.length ≤ 80 ∧ a.stubs.length ≤ 80) : fits (n + 1) (xs ++ [a]) := by
  refine ⟨by simp; exact h.1, fun b hb => ?_⟩
  rcases List.mem_append.1 hb with q | q
  · exact h.2 b q
  · have : b = a := by simpa using q
    subst this; exact ha
theorem fits_set {n : Nat} {xs : List TLsa} {a : TLsa} {i : Nat} (h : fits n xs) (ha : a.links.length ≤ 80 ∧ a.stubs.length ≤ 80) : fits n (xs.set i a) := by
  refine ⟨by simpa using h.1, fun b hb => ?_⟩
  rcases List.mem_or_eq_of_mem_set hb with q | q
  · exact h.2 b q
  · subst q; exact ha
theorem fits_in {n : Nat} {xs : List TLsa} (h : fits n xs) {i : Nat} (hi : i < xs.length) : xs[i].links.length ≤ 80 ∧ xs[i].stubs.length ≤ 80 := h.2 _ (List.getElem_mem hi)
theorem dq_one {b : Bool} {xs : List TLsa} {us : List V} {Hs H : Heap} {o : Nat} (h : Dq (dbT b) Hs o xs us H) : ∃ u, us = [u] ∧ (cellsOf u = [u] ∧ cellOk u = true ∧ notAny u = true) := by
  obtain ⟨Hb, h1, h2⟩ := h
  obtain ⟨u, rfl⟩ := one_cell h2
  exact ⟨u, rfl, dpS_cell h2⟩
def InvDd (H : Heap) (o : Nat) (n : Int) (g : V) (es : List TEdge) (m : Nat) (ys : List V) (Hc : Heap) : Prop :=
  ∃ (i : Nat) (u : V) (xs : List TLsa), i ≤ n.toNat ∧ ys = [.box [.nils], .box [.int .i64 n, g], .box [u], .int .i64 (i : Nat)] ∧ m = n.toNat - i ∧ xs.length ≤ i ∧ (∀ a ∈ xs, a.links.length ≤ 60 ∧ a.stubs.length ≤ 10) ∧
    Dq (dbT false) H o xs [u] Hc
def InvDe (Ha : Heap) (o : Nat) (n : Int) (g u : V) (es : List TEdge) (m : Nat) (ys : List V) (Hc : Heap) : Prop :=
  ∃ (j : Nat) (a : TLsa) (l s : V), j ≤ es.length ∧ ys = [.box [.nils], .box [.int .i64 n, g], .box [u], .box (lsaRow a l s), .int .i64 (j : Nat)] ∧ m = es.length - j ∧ a.links.length ≤ j ∧ a.stubs.length ≤ 10 ∧
    Dq (lsaT false) Ha o a (lsaRow a l s) Hc
set_option maxHeartbeats 4000000 in
theorem C_w_l06DrawDb {o : Nat} {n : Int} {H : Heap} {K : V → Heap → Prop} (hc : IsCur H o) (hn : 1 ≤ n ∧ n ≤ 10)
    (h : ∀ (xs : List TLsa) u H', xs.length ≤ 10 → (∀ a ∈ xs, a.links.length ≤ 60 ∧ a.stubs.length ≤ 10) → Dq (dbT false) H o xs [u] H' → K (.agg [u]) H') : ACalls P n_s_l06DrawDb [.ptr o 0 0, .int .i64 n] H K := by
  apply W_s_l06DrawDb
  unfold F_s_l06DrawDb
  simp [stz_eq, putCells, fillZ]
  rw [i64_in (n := 2 * n) (by omega) (by omega)]
  refine C_w_l03DrawGraph hc (by omega) (by omega) fun es g H1 hes hg => ?_
  have cg := (hx_rc hg (edge_row es)).cell
  simp [stz_eq, putCells, cg]
  have rg1 := hx_rc hg (edge_row es)
  refine ⟨InvDd H1 o n g es, ⟨n.toNat, Shr.of ⟨0, .nils, [], by omega, rfl, by omega, by simp, by simp, ⟨H1, St.grow (hx_cur hg) (Abs.sub_refl _), dpS_nil⟩⟩⟩, ?_⟩
  rintro m ys Hc ⟨i, u, xs, hi, rfl, rfl, hlx, hfx, hu⟩
  have rg : Rd (Abs.del Hc o) 3 g (es.map enEdge) := rg1.mono (St.del hu.st)
  obtain ⟨u', eu, cu⟩ := dq_one hu
  obtain rfl : u = u' := by simpa using eu
  simp [stz_eq, putCells, cu, cg]
  rw [i64_in (n := (i : Int) + 1) (by omega) (by omega)]
  refine ⟨fun hlt => ?_, fun hge => Ret.of (h xs u Hc (by omega) hfx (Dq.from (hx_st hg) hu))⟩
  refine C_s_l01Below hu.cur fun k H2 k0 k1 _ s2 => ?_
  simp
  refine C_s_l01Below s2.1 fun c H3 _ _ _ s3 => ?_
  have t3 := s2.trans s3
  refine C_pick [0, 0, c] rfl rfl rfl (by simp) (by simp) s3.1 fun x H4 _ s4 => ?_
  have t4 := t3.trans s4
  refine C_s_l01Below s4.1 fun q H5 q0 q1 _ s5 => ?_
  have t5 := t4.trans s5
  refine C_w_l05DrawStubs s5.1 (by omega) fun ss w H6 hss hw => ?_
  have cw := (hx_rc hw (sz := 3) (by intro r hr; obtain ⟨e, _, rfl⟩ := List.mem_map.1 hr; rfl)).cell
  simp [fillZ, stz_eq, putCells, cw]
  have t6 := t5.trans (hx_st hw)
  have hx0 : Hx H5 o 2 (([] : List TLink).map enLink) .nils H5 := ⟨H5, St.grow s5.1 (Abs.sub_refl _), Held.nil⟩
  have rg5 : Rd (Abs.del H5 o) 3 g (es.map enEdge) := rg.mono (St.del t5)
  have hd0 : Dq (lsaT false) H5 o ⟨(i : Int), IntKind.i64.wrap (1 + k), x, [], ss⟩ (lsaRow ⟨(i : Int), IntKind.i64.wrap (1 + k), x, [], ss⟩ .nils w) H6 := dq_lsa hx0 hw
  refine ⟨InvDe H5 o n g u es, ⟨es.length, Shr.of ⟨0, _, .nils, w, by omega, rfl, by omega, by simp, hss, hd0⟩⟩, ?_⟩
  rintro m ys Hd ⟨j, a, l, s, hj, rfl, rfl, hal, has, hd⟩
  obtain ⟨l', s', e', cl, cs⟩ := dq_cell hd
  simp only [lsaRow, List.cons.injEq, and_true, true_and] at e'
  obtain ⟨rfl, rfl⟩ := e'
  have rgd' : Rd Hd 3 g (es.map enEdge) := (rg5.mono (St.del hd.st)).mono del_sub
  simp [rgd'.len, cl, cs]
  rw [i64_in (n := (j : Int) + 1) (by omega) (by omega)]
  refine ⟨fun hlt2 => ?_, fun hge2 => ?_⟩
  · have hgd : (es.map enEdge).getD j [] = enEdge es[j] := by simp [hlt2]
    refine rgd'.idx (by omega) (by simpa using hlt2) fun p hp => hp.fld fun p1 hp1 => ?_
    simp only [Int.toNat_natCast, hgd] at hp1
    rw [hp1.ld]
    simp
    refine ⟨fun _ => ?_, fun _ => ?_⟩
    · refine rgd'.idx (by omega) (by simpa using hlt2) fun p hp => hp.fld fun p1 hp1 => ?_
      simp only [Int.toNat_natCast, hgd] at hp1
      rw [hp1.ld]
      simp
      refine rgd'.idx (by omega) (by simpa using hlt2) fun p hp => hp.fld fun p1 hp1 => ?_
      simp only [Int.toNat_natCast, hgd] at hp1
      rw [hp1.ld]
      simp [bsl_one, fillZ, putCells]
      intro o7 ho7
      refine dq_links (x := (es[j].2.1, es[j].2.2)) hd (sub_fresh ho7) (by omega) fun l' H' hd' c' => ?_
      simp [stz_eq, putCells, c']
      exact ⟨es.length - (j + 1), by omega, Shr.of ⟨j + 1, { a with links := a.links ++ [(es[j].2.1, es[j].2.2)] }, l', s, by omega, rfl, rfl, by simp; omega, has, hd'⟩⟩
    · exact ⟨es.length - (j + 1), by omega, Shr.of ⟨j + 1, a, l, s, by omega, by simp, rfl, by omega, has, hd⟩⟩
  · refine C_s_l01Below hd.cur fun z H7 _ _ _ s7 => ?_
    have hd7 := hd.step s7
    simp
    refine ⟨fun _ => ?_, fun _ => ?_⟩
    · simp [bsl_one, cl, cs]
      intro o8 ho8
      obtain ⟨Hb, g1, g2⟩ := hd7
      obtain ⟨Hb2, f1, f2⟩ := hu.step (t5.trans g1)
      refine dpS_app (T := lsaT false) f2 g2 (sub_fresh ho8) (by omega) fun v' H' H'' ho' hs' => ?_
      have cv := dpS_cell ho'
      simp [stz_eq, putCells, cv]
      refine ⟨n.toNat - (i + 1), by omega, H'', hs', i + 1, v', xs ++ [a], by omega, by simp, rfl, by simp; omega, fun b hb => ?_, ⟨Hb2, f1, ho'⟩⟩
      rcases List.mem_append.1 hb with q | q
      · exact hfx b q
      · have : b = a := by simpa using q
        subst this; exact ⟨by omega, has⟩
    · refine ⟨n.toNat - (i + 1), by omega, Shr.of ⟨i + 1, u, xs, by omega, by simp, rfl, by omega, hfx, ?_⟩⟩
      exact hu.step (t5.trans hd7.st)
def fitsQ (H : Heap) (n : Nat) (xs : List TLsa) (o : Nat) (u : V) (H' : Heap) : Prop := IsCur H' o ∧ Abs.sub H (Abs.del H' o) ∧ fits n xs ∧ Rq (dbT false) H' o xs [u] ∧ (cellsOf u = [u] ∧ cellOk u = true ∧ notAny u = true)
set_option maxHeartbeats 4000000 in
theorem C_w_l06Draw {v : V} {bs : List (List V)} {H : Heap} {K : V → Heap → Prop} (hv : Rd H 1 v bs) (hb : Bs bs) (hl : bs.length ≤ 9223372036854775807) (hcell : cellsOf v = [v] ∧ cellOk v = true ∧ notAny v = true)
    (h : ∀ o xs u H', fitsQ H 10 xs o u H' → K (.tup [.ptr o 0 0, .agg [u]]) H') : ACalls P n_s_l06Draw [v] H K := by
  apply W_s_l06Draw
  unfold F_s_l06Draw
  refine C_s_l01New hv hb hl hcell fun o H1 ho hc1 hs1 => ?_
  have low : ∀ {H'}, St H1 o H' → Abs.sub H (Abs.del H' o) := fun {H'} hst => sub_trans (fun i x hi => by
    unfold Abs.del
    rw [if_neg (by rintro rfl; rw [ho] at hi; cases hi)]
    exact hs1 _ _ hi) (St.del hst)
  refine C_s_l01Size (hv.mono hs1) (by omega) hl fun sz hz0 hz1 => ?_
  refine C_s_l01Below hc1 fun k H2 k0 k1 k2 s2 => ?_
  have hk : k ≤ 9 := by by_cases e : 0 < sz <;> omega
  simp
  rw [i64_in (n := 1 + k) (by omega) (by omega)]
  refine C_w_l06DrawDb s2.1 (by omega) fun xs u H3 hl3 hf3 hd3 => ?_
  have hd := Dq.from s2 hd3
  obtain ⟨u', eu, cu⟩ := dq_one hd
  obtain rfl : u = u' := by simpa using eu
  have ft : fits 10 xs := ⟨hl3, fun a ha => by have := hf3 a ha; omega⟩
  simp [stz_eq, putCells, cu]
  refine C_s_l01Once hd.cur fun q H4 s4 => ?_
  have hd4 := hd.step s4
  have ln := rdS_len hd4.rq.rd
  simp [ln]
  have fin : ∀ xs' H', fits 10 xs' → Dq (dbT false) H1 o xs' [u] H' → K (.tup [.ptr o 0 0, .agg [u]]) H' := fun xs' H' g1 g2 => h o xs' u H' ⟨g2.cur, low g2.st, g1, g2.rq, cu⟩
  refine ⟨fun _ => ⟨fun hpos => ?_, fun _ => ⟨⟨noHeap, noHeap_sub _⟩, Ret.of (fin xs H4 ft hd4)⟩⟩, fun _ => ⟨⟨noHeap, noHeap_sub _⟩, Ret.of (fin xs H4 ft hd4)⟩⟩
  refine C_s_l01Below hd4.cur fun x H5 x0 x1 _ s5 => ?_
  have hd5 := hd4.step s5
  have hx : x < xs.length := x1 (by omega)
  have hxn : x.toNat < xs.length := by omega
  skip
  refine rdS_idx hd5.rq.rd (by omega) hxn fun p row hp hrw => ?_
  have hrw' := hrw
  obtain ⟨l2, s2', rfl, _, _⟩ := hrw'
  rw [hp.ld]
  simp
  have f1 := hf3 _ (List.getElem_mem hxn)
  refine C_w_l05Bend hd5.cur hrw (by omega) fun a' us' H6 hl6 hd6 => ?_
  obtain ⟨Hb, g1, g2⟩ := hd6
  obtain ⟨Hb2, k1, k2⟩ := hd5.step g1
  refine dpS_set (T := lsaT false) k2 g2 (Abs.sub_refl _) (by omega) hxn fun p hst => ?_
  obtain ⟨l', s', Hm, rfl, w1, w2⟩ := lsa_dp g2
  have c1 := w1.cell
  have c2 := w2.cell
  refine hst _ _ (fun row hrow => by simp [stz, c1, c2, hrow, lsaT, putCells]) fun H' H'' hd' hs' => ?_
  refine ⟨⟨noHeap, noHeap_sub _⟩, ?_⟩
  skip
  exact Ret.shr (fin _ H'' (fits_set ft (by omega)) ⟨Hb2, k1, hd'⟩) rfl hs'

end Go.Proofs.Ytgoljfhjhcjcpaa
/-
Contracts of the draws of a database and an advertisement, and of two databases.
-/
namespace Go.Proofs.Ytgoljfhjhcjcpaa
open Go Go.Abs Go.Proofs

theorem dq_tail {xs : List TLsa} {w : V} {Hs H : Heap} {o : Nat} (h : Dq (dbT false) Hs o xs [w] H) (hp : 0 < xs.length) : ∃ w', aSlice H 5 w (some (.int .i64 1)) none none = some w' ∧ (dbT false).rd H (xs.drop 1) [w'] ∧ (cellsOf w' = [w'] ∧ cellOk w' = true ∧ notAny w' = true) := by
  have hr := h.rq.rd
  obtain ⟨Hb, _, es, ⟨w', rows, ess, e, h0, h1, rfl⟩, h2⟩ := h
  cases e
  have hl := h1.len
  obtain ⟨Hm, c1, c2⟩ := Chain.append.1 h2
  have hh : Held Hm 5 rows w H := Chain.one.1 c2
  have hs := hh.sl h0
  have ha : All2 ((lsaT false).rd H) xs rows := h1.all fun e he => h2.rb (List.mem_append_left _ he) (h1.ok e he)
  obtain ⟨w2, q1, q2⟩ := Sl_from (k := .i64) (i := 1) hs (by omega)
  refine ⟨w2, q1, ⟨w2, rows.drop 1, rfl, ⟨q2.1, fun _ => q2.2.1⟩, ?_⟩, q2.1.cell⟩
  cases ha with
  | nil => simp at hp
  | cons _ ha => simpa using ha
set_option maxHeartbeats 2000000 in
theorem C_w_l06DrawLsa {o n : Nat} {xs : List TLsa} {u : V} {H : Heap} {K : V → Heap → Prop} (hc : IsCur H o) (hq : Rq (dbT false) H o xs [u]) (hf : fits n xs)
    (h : ∀ (a : TLsa) us Hd, a.links.length ≤ 90 ∧ a.stubs.length ≤ 90 → Dq (lsaT false) H o a us Hd → K (.agg us) Hd) : ACalls P n_s_l06DrawLsa [.ptr o 0 0, .agg [u]] H K := by
  have cu := rdS_cell hq.rd
  have ln := rdS_len hq.rd
  apply W_s_l06DrawLsa
  unfold F_s_l06DrawLsa
  simp [cu, ln]
  have fin : ∀ {Hx : Heap}, St H o Hx → ACalls P n_s_l01Below [.ptr o 0 0, (.int .i64 10)] Hx fun v19 H20 =>
      ACalls P n_s_l05DrawLsa [.ptr o 0 0, v19, (.int .i64 10)] H20 fun v21 H22 =>
      bnd (stz 5 [(.int .i64 0), (.int .i64 0), (.int .i64 0), .nils, .nils] 0 v21) fun c23 =>
      bnd (partOf true 5 c23 0) fun t24 =>
      Ret K t24 H22 := fun {Hx} sx => by
    refine C_s_l01Below sx.1 fun x H1 _ _ _ s1 => ?_
    refine C_w_l05DrawLsa s1.1 (by omega) fun a us H2 _ hl hd => ?_
    have hd' := Dq.from (sx.trans s1) hd
    obtain ⟨l, s, rfl, cl, cs⟩ := dq_cell hd'
    simp [stz_eq, putCells, cl, cs]
    exact Ret.of (h a _ H2 (by omega) hd')
  simp at fin
  refine ⟨fun hpos => ?_, fun _ => fin (St.grow hc (Abs.sub_refl _))⟩
  refine C_s_l01Below hc fun k H1 _ _ _ s1 => ?_
  simp
  refine ⟨fun _ => ?_, fun _ => fin s1⟩
  refine ⟨Abs.del H1 o, del_sub, ?_⟩
  refine C_s_l01Below s1.1 fun x H2 x0 x1 _ s2 => ⟨St.low s2, ?_⟩
  have hx : x < xs.length := x1 (by omega)
  have hxn : x.toNat < xs.length := by omega
  refine rdS_idx (hq.st s1) (by omega) hxn fun p row hp hrw => ?_
  have f1 := fits_in hf hxn
  have hrw2 : Rq (lsaT false) H2 o xs[x.toNat] row := (lsaT false).mono hrw (St.del s2)
  obtain ⟨l2, s2', rfl, _, _⟩ := hrw
  rw [hp.ld]
  simp
  refine C_w_l05DrawLike s2.1 hrw2 (by omega) fun a us H3 hl hd => ?_
  have hd' := Dq.from (s1.trans s2) hd
  obtain ⟨l, s, rfl, cl, cs⟩ := dq_cell hd'
  simp [stz_eq, putCells, cl, cs]
  exact ⟨St.low (s2.trans hd.st), Ret.of (h a _ H3 (by omega) hd')⟩
theorem C_w_DrawInstall {v : V} {bs : List (List V)} {H : Heap} {K : V → Heap → Prop} (hv : Rd H 1 v bs) (hb : Bs bs) (hl : bs.length ≤ 9223372036854775807) (hcell : cellsOf v = [v] ∧ cellOk v = true ∧ notAny v = true)
    (h : ∀ xs u (a : TLsa) us H', Abs.sub H H' → fits 10 xs → (dbT false).rd H' xs [u] → a.links.length ≤ 90 ∧ a.stubs.length ≤ 90 → (lsaT false).rd H' a us → K (.tup [.agg [u], .agg us]) H') : ACalls P n_s_DrawInstall [v] H K := by
  apply W_s_DrawInstall
  unfold F_s_DrawInstall
  refine C_w_l06Draw hv hb hl hcell fun o xs u H1 ⟨hc, hs, hf, hq, cu⟩ => ?_
  simp [stz_eq, putCells, cu]
  refine ⟨noHeap, noHeap_sub _, ?_⟩
  refine C_w_l06DrawLsa hc hq hf fun a us H2 hl2 hd => ⟨noHeap_sub _, ?_⟩
  obtain ⟨l, s, rfl, cl, cs⟩ := dq_cell hd
  simp [stz_eq, putCells, cl, cs]
  exact Ret.of (h xs u a _ H2 (sub_trans hs (St.low hd.st)) hf (hq.st hd.st).rd hl2 hd.rq.rd)
def InvD6 (H : Heap) (o : Nat) (u w : V) (m : Nat) (ys : List V) (Hc : Heap) : Prop :=
  ∃ (i : Nat) (xs : List TLsa), i ≤ xs.length ∧ ys = [.box [.nils], .box [.nils], .box [u], .box [w], .int .i64 (i : Nat)] ∧ m = xs.length - i ∧ fits 10 xs ∧ Dq (dbT false) H o xs [w] Hc
set_option maxHeartbeats 4000000 in
theorem C_w_l06DrawTwo {v : V} {bs : List (List V)} {H : Heap} {K : V → Heap → Prop} (hv : Rd H 1 v bs) (hb : Bs bs) (hl : bs.length ≤ 9223372036854775807) (hcell : cellsOf v = [v] ∧ cellOk v = true ∧ notAny v = true)
    (h : ∀ xs u ys w H', Abs.sub H H' → fits 10 xs → (dbT false).rd H' xs [u] → fits 10 ys → (dbT false).rd H' ys [w] → K (.tup [.agg [u], .agg [w]]) H') : ACalls P n_s_l06DrawTwo [v] H K := by
  apply W_s_l06DrawTwo
  unfold F_s_l06DrawTwo
  refine C_w_l06Draw hv hb hl hcell fun o xs u H1 ⟨hc, hs, hf, hq, cu⟩ => ?_
  simp [stz_eq, putCells, cu]
  refine C_s_l06Copy (c := false) hq.rd (fits_sz hf (by omega)) fun w H2 hw => ?_
  have cw := dpS_cell hw
  simp [stz_eq, putCells, cw]
  refine ⟨InvD6 H1 o u w, ⟨xs.length, Shr.of ⟨0, xs, by omega, rfl, by omega, hf, ⟨H1, St.grow hc (Abs.sub_refl _), hw⟩⟩⟩, ?_⟩
  rintro m zs Hc ⟨i, ys, hi, rfl, rfl, hfy, hd⟩
  have ln := rdS_len hd.rq.rd
  simp [ln, cw]
  rw [i64_in (n := (i : Int) + 1) (by have := hfy.1; omega) (by have := hfy.1; omega)]
  refine ⟨fun hlt => ?_, fun hge => ?_⟩
  · refine C_s_l01Once hd.cur fun q H3 s3 => ?_
    have hd3 := hd.step s3
    have same : ∀ Hx, Dq (dbT false) H1 o ys [w] Hx → ∃ n13, n13 < ys.length - i ∧ Shr (InvD6 H1 o u w n13 [.box [.nils], .box [.nils], .box [u], .box [w], .int .i64 ((i : Int) + 1)]) Hx := fun Hx hx =>
      ⟨ys.length - (i + 1), by omega, Shr.of ⟨i + 1, ys, by omega, by simp, rfl, hfy, hx⟩⟩
    simp
    refine ⟨fun _ => ?_, fun _ => same _ hd3⟩
    refine rdS_at hd3.rq del_sub (by omega) (by simpa using hlt) fun p row hp hrw => ?_
    simp only [Int.toNat_natCast] at hrw
    have hrw2 : Rq (lsaT false) H3 o ys[i] row := hrw
    obtain ⟨l2, s2', rfl, _, _⟩ := hrw
    have f1 := fits_in hfy hlt
    rw [hp.ld]
    simp
    refine C_w_l05DrawLike hd3.cur hrw2 (by omega) fun a us H4 hl4 hd4 => ?_
    have hdy := hd3.step hd4.st
    have hd4' := hd4
    obtain ⟨l, s, rfl, cl, cs⟩ := dq_cell hd4
    simp [stz_eq, putCells, cl, cs]
    refine ⟨H4, Abs.sub_refl _, ?_⟩
    refine C_s_LsaOk hd4.rq.rd ⟨Abs.sub_refl _, ?_⟩
    by_cases ok : lsaOk a
    · have k4 := ok.2.2.2.1
      have k5 := ok.2.2.2.2.1
      simp [ok, cw]
      refine rdS_idx hdy.rq.rd (by omega) (by simpa using hlt) fun p row hp hrw => hp.fld fun q hq => ?_
      simp only [Int.toNat_natCast] at hrw
      obtain ⟨l3, s3', rfl, _, _⟩ := hrw
      rw [hq.ld]
      simp
      refine ⟨fun _ => ?_, fun _ => same _ hdy⟩
      obtain ⟨Hb, g1, g2⟩ := hd4'
      obtain ⟨Hb2, k1, k2⟩ := hd3.step g1
      refine dpS_set (T := lsaT false) k2 g2 (Abs.sub_refl _) (by omega) (by simpa using hlt) fun p hst => ?_
      refine hst _ _ (fun row hrow => by simp [stz, cl, cs, hrow, lsaT, putCells]) fun H' H'' hd' hs' => ?_
      simp only [Int.toNat_natCast] at hd'
      exact ⟨ys.length - (i + 1), by omega, H'', hs', i + 1, ys.set i a, by simp; omega, by simp, by simp, fits_set hfy (by omega), ⟨Hb2, k1, hd'⟩⟩
    · simp [ok]
      exact same _ hdy
  · refine C_s_l01Once hd.cur fun q H3 s3 => ?_
    have hd3 := hd.step s3
    have hru := (hq.st hd3.st).rd
    have hsu := sub_trans hs (St.low hd3.st)
    have keep : Ret K (.tup [.agg [u], .agg [w]]) H3 := Ret.of (h xs u ys w H3 hsu hf hru hfy hd3.rq.rd)
    simp [ln, cw, cu, stz_eq, putCells]
    refine ⟨fun _ => ⟨fun hpos => ?_, fun _ => ⟨⟨noHeap, noHeap_sub _⟩, keep⟩⟩, fun _ => ⟨⟨noHeap, noHeap_sub _⟩, keep⟩⟩
    obtain ⟨w2, q1, q2, q3⟩ := dq_tail hd3 (by omega)
    rw [q1]
    simp [stz_eq, putCells, q3, cu]
    exact ⟨⟨noHeap, noHeap_sub _⟩, Ret.of (h xs u _ w2 H3 hsu hf hru ⟨by have := hfy.1; simp; omega, fun a ha => hfy.2 a (List.mem_of_mem_drop ha)⟩ q2)⟩
theorem C_w_DrawMerge {v : V} {bs : List (List V)} {H : Heap} {K : V → Heap → Prop} (hv : Rd H 1 v bs) (hb : Bs bs) (hl : bs.length ≤ 9223372036854775807) (hcell : cellsOf v = [v] ∧ cellOk v = true ∧ notAny v = true)
    (h : ∀ xs u ys w H', Abs.sub H H' → fits 10 xs → (dbT false).rd H' xs [u] → fits 10 ys → (dbT false).rd H' ys [w] → K (.tup [.agg [u], .agg [w]]) H') : ACalls P n_s_DrawMerge [v] H K := by
  apply W_s_DrawMerge
  unfold F_s_DrawMerge
  refine C_w_l06DrawTwo hv hb hl hcell fun xs u ys w H1 hs f1 r1 f2 r2 => ?_
  have c1 := rdS_cell r1
  have c2 := rdS_cell r2
  simp [stz_eq, putCells, c1, c2]
  exact Ret.of (h xs u ys w H1 hs f1 r1 f2 r2)

end Go.Proofs.Ytgoljfhjhcjcpaa
