/-
Contracts of the draws of advertisements.
-/
import Derived.Test.YtaippfedjjjpeaaDrawQ
import Derived.Test.YtaippfedjjjpeaaPutR
import Derived.Test.YtaippfedjjjpeaaLsaM
set_option linter.all false
namespace Go.Proofs.Ytaippfedjjjpeaa
open Go Go.Abs Go.Proofs

theorem psz_pos (len : Int) : psz len ≠ 0 := by
  unfold psz
  have : (0 : Int) < 2 ^ (16 - len).toNat := Int.pow_pos (by omega)
  omega
set_option maxHeartbeats 2000000 in
theorem C_w_l01DrawPrefix {o : Nat} {H : Heap} {K : V → Heap → Prop} (hc : IsCur H o) (h : ∀ net len Hd, St H o Hd → K (.agg [.int .i64 net, .int .i64 len]) Hd) : ACalls P n_s_l01DrawPrefix [.ptr o 0 0] H K := by
  apply W_s_l01DrawPrefix
  unfold F_s_l01DrawPrefix
  refine C_s_l01Below hc fun a H1 a0 a1 _ s1 => ?_
  refine C_s_l01Below s1.1 fun b H2 b0 b1 _ s2 => ?_
  have s2 := s1.trans s2
  simp
  refine C_s_l01Below s2.1 fun c H3 c0 c1 _ s3 => ?_
  have s3 := s2.trans s3
  simp
  rw [i64_in (n := 8 + b) (by omega) (by omega), i64_in (n := 8 + c) (by omega) (by omega)]
  refine C_pick [0, 1, 4, 8, 12, 15, 16, a, 8 + b, 8 + c] rfl rfl rfl (by simp) (by simp) s3.1 fun n H4 hn s4 => ?_
  have s4 := s3.trans s4
  have hn' : 0 ≤ n ∧ n ≤ 16 := by
    simp only [List.mem_cons, List.not_mem_nil, or_false] at hn
    omega
  refine C_s_l01Below s4.1 fun d H5 _ _ _ s5 => ?_
  have s5 := s4.trans s5
  refine C_s_l01Below s5.1 fun e H6 _ _ _ s6 => ?_
  have s6 := s5.trans s6
  refine C_pick [0, 2560, d, e] rfl rfl rfl (by simp) (by simp) s6.1 fun net H7 _ s7 => ?_
  have s7 := s6.trans s7
  simp [stz_eq, putCells, fillZ]
  refine ⟨noHeap, noHeap_sub _, ?_⟩
  refine C_s_l01Size2 hn' ⟨noHeap_sub _, ?_⟩
  simp [psz_pos]
  refine C_s_l01Once s7.1 fun q H8 s8 => ?_
  have s8 := s7.trans s8
  simp [stz_eq, putCells]
  refine ⟨fun _ => ?_, fun _ => Ret.of (h _ _ _ s8)⟩
  refine C_s_l01Below s8.1 fun k H9 _ _ _ s9 => ?_
  have s9 := s8.trans s9
  simp [stz_eq, putCells]
  refine ⟨fun _ => ?_, fun _ => ⟨fun _ => ?_, fun _ => ⟨fun _ => Ret.of (h _ _ _ s9), fun _ => Ret.of (h _ _ _ s9)⟩⟩⟩
  · refine C_pick [-1, 17, 3] rfl rfl rfl (by simp) (by simp) s9.1 fun y H10 _ s10 => ?_
    simp [stz_eq, putCells]
    exact Ret.of (h _ _ _ (s9.trans s10))
  · refine C_pick [-1, 65536, 1, 65535] rfl rfl rfl (by simp) (by simp) s9.1 fun y H10 _ s10 => ?_
    simp [stz_eq, putCells]
    exact Ret.of (h _ _ _ (s9.trans s10))

def InvDl (H : Heap) (o : Nat) (n : Int) (m : Nat) (ys : List V) (Hc : Heap) : Prop :=
  ∃ (i : Nat) (u : V) (ls : List TLink), (i : Int) ≤ max n 0 ∧ ys = [u, .int .i64 (i : Nat)] ∧ m = n.toNat - i ∧ ls.length ≤ i ∧ Hx H o 2 (ls.map enLink) u Hc
def InvDs1 (H : Heap) (o : Nat) (n : Int) (m : Nat) (ys : List V) (Hc : Heap) : Prop :=
  ∃ (i : Nat) (u : V) (t : List TStub), (i : Int) ≤ max n 0 ∧ ys = [.box [u], .int .i64 (i : Nat)] ∧ m = n.toNat - i ∧ t.length ≤ i ∧ St H o Hc ∧ Rd (Abs.del Hc o) 3 u (t.map enStub)
def InvDs2 (H : Heap) (t : List TStub) (m : Nat) (ys : List V) (Hc : Heap) : Prop :=
  ∃ (i : Nat) (u : V), i ≤ t.length ∧ ys = [u, .int .i64 (i : Nat)] ∧ m = t.length - i ∧ Held H 3 ((t.take i).map enStub) u Hc
set_option maxHeartbeats 2000000 in
theorem C_w_l05DrawStubs {o : Nat} {n : Int} {H : Heap} {K : V → Heap → Prop} (hc : IsCur H o) (hn : n ≤ 10) (h : ∀ (ss : List TStub) u Hd, ss.length ≤ 10 → Hx H o 3 (ss.map enStub) u Hd → K u Hd) : ACalls P n_s_l05DrawStubs [.ptr o 0 0, .int .i64 n] H K := by
  apply W_s_l05DrawStubs
  unfold F_s_l05DrawStubs
  simp [stz_eq, putCells, fillZ, bsl_nil]
  refine ⟨InvDs1 H o n, ⟨n.toNat, Shr.of ⟨0, .nils, [], by omega, rfl, by omega, by simp, St.grow hc (Abs.sub_refl _), Rd.nils⟩⟩, ?_⟩
  rintro m ys Hc ⟨i, u, t, hi, rfl, rfl, hlen, st, hu⟩
  have cu := hu.cell
  simp
  refine ⟨fun hlt => ?_, fun hge => ?_⟩
  · rw [i64_in (n := (i : Int) + 1) (by omega) (by omega)]
    refine C_w_l01DrawPrefix st.1 fun net len H1 s1 => ?_
    have st1 := st.trans s1
    simp [stz_eq, putCells]
    have put : ∀ (net len : Int) (H2 : Heap), St Hc o H2 → ∃ S, Abs.sub S H2 ∧ ACalls P n_s_l01Below [.ptr o 0 0, .int .i64 9] H2 fun v23 H24 => Abs.sub S H24 ∧ bnd (aBinN .add (.int .i64 1) v23) fun t25 =>
        bnd (fillZ [(.int .i64 0), (.int .i64 0), (.int .i64 0)] [(0, 2, .agg [.int .i64 net, .int .i64 len]), (2, 1, t25)]) fun c26 => ACalls P n_s_PutRoute [.agg [u], (.agg c26)] H24 fun v27 H28 => Abs.sub S H28 ∧
        bnd (aExtract 0 v27) fun t29 => bnd (aExtract 1 v27) fun _ => bnd (stz 1 [u] 0 t29) fun c31 => ∃ n6, n6 < n.toNat - i ∧ Shr (InvDs1 H o n n6 [.box c31, .int .i64 ((i : Int) + 1)]) H28 := fun net len H2 s2 => by
      refine ⟨noHeap, noHeap_sub _, ?_⟩
      refine C_s_l01Below s2.1 fun x H3 x0 x1 _ s3 => ⟨noHeap_sub _, ?_⟩
      have s3 := s2.trans s3
      have hu3 := hu.mono (St.del s3)
      simp [fillZ, putCells]
      refine C_s_PutRoute (t := t) (k := (net, len, IntKind.i64.wrap (1 + x))) (hu3.mono del_sub) (by omega) fun w H4 h4 => ⟨noHeap_sub _, ?_⟩
      have c4 := h4.cell
      simp [stz_eq, putCells, c4]
      have hx4 : Hx Hc o 3 ((putT t (net, len, IntKind.i64.wrap (1 + x))).1.map enStub) w H4 := ⟨H3, s3, h4⟩
      have hl4 := putT_len t (net, len, IntKind.i64.wrap (1 + x))
      exact ⟨n.toNat - (i + 1), by omega, Shr.of ⟨i + 1, w, _, by omega, by simp, rfl, by omega, st.trans (hx_st hx4), hx_rc hx4 enStub_len⟩⟩
    simp [fillZ, putCells, stz_eq, cu] at put
    refine C_s_l01Once st1.1 fun q H2 s2 => ?_
    have s2 := s1.trans s2
    simp
    refine ⟨fun _ => ?_, fun _ => ?_⟩
    · refine C_s_l01Below s2.1 fun x H3 x0 x1 _ s3 => ?_
      simp [fillZ, putCells, stz_eq]
      have := put (IntKind.i64.wrap (256 * x)) 8 H3 (s2.trans s3)
      simpa [fillZ, putCells, stz_eq, cu] using this
    · have := put net len H2 s2
      simpa [fillZ, putCells, stz_eq, cu] using this
  · intro o5 ho5
    refine ⟨InvDs2 Hc t, ⟨t.length, Shr.of ⟨0, _, by omega, rfl, by omega, Held.new ho5⟩⟩, ?_⟩
    rintro m ys Hd ⟨j, w, hj, rfl, rfl, hw⟩
    simp [hu.len]
    refine ⟨fun hlt => ?_, fun hge => ?_⟩
    · have hst2 : Abs.sub (Abs.del Hc o) Hd := sub_trans del_sub hw.sub
      have hgd : (t.map enStub).getD j [] = enStub t[j] := by simp [hlt]
      refine (hu.mono hst2).idx (by omega) (by simpa using hlt) fun p hp => ?_
      simp only [Int.toNat_natCast, hgd] at hp
      refine hp.fld fun p1 hp1 => ?_
      rw [hp1.ld]
      simp
      refine (hu.mono hst2).idx (by omega) (by simpa using hlt) fun p hp => ?_
      simp only [Int.toNat_natCast, hgd] at hp
      refine hp.fld fun p1 hp1 => ?_
      rw [hp1.ld]
      have hb1 : bsl 3 1 [V.int .i64 0, .int .i64 0, .int .i64 0] [(0, .agg [.int .i64 t[j].1, .int .i64 t[j].2.1, .int .i64 t[j].2.2])] = some [enStub t[j]] := rfl
      simp [fillZ, putCells, hb1]
      intro o7 ho7
      refine hw.append (sub_fresh ho7) (by simp) (by simp; omega) fun v' H' H'' ho' hs' => ?_
      rw [i64_in (n := (j : Int) + 1) (by omega) (by omega)]
      refine ⟨t.length - (j + 1), by omega, H'', hs', j + 1, v', by omega, by simp, rfl, ?_⟩
      rw [List.take_succ_eq_append_getElem hlt, List.map_append]
      exact ho'
    · have e : j = t.length := by omega
      subst e
      rw [List.take_length] at hw
      exact Ret.of (h t w Hd (by omega) ⟨Hc, st, hw⟩)

/-! #### advertisements -/
def small (a : TLsa) : Prop := a.links.length ≤ 40 ∧ a.stubs.length ≤ 40
def InvBd5 (H : Heap) (o : Nat) (a : TLsa) (m : Nat) (ys : List V) (Hc : Heap) : Prop :=
  ∃ (i : Nat) (a' : TLsa) (l s : V), i ≤ 7 ∧ ys = [.box [.int .i64 0, .int .i64 0, .int .i64 0, .nils, .nils], .box (lsaRow a' l s), .int .i64 (i : Nat)] ∧ m = 7 - i ∧ a'.links.length ≤ a.links.length + 7 ∧ a'.stubs.length ≤ a.stubs.length + i ∧ Dq (lsaT false) H o a' (lsaRow a' l s) Hc
set_option maxHeartbeats 4000000 in
theorem C_w_l05Bend {o : Nat} {b : Bool} {a : TLsa} {vs : List V} {H : Heap} {K : V → Heap → Prop} (hc : IsCur H o) (hv : (lsaT b).rd H a vs) (hl : a.links.length ≤ 100 ∧ a.stubs.length ≤ 100)
    (h : ∀ (a' : TLsa) us Hd, a'.links.length ≤ a.links.length + 7 ∧ a'.stubs.length ≤ a.stubs.length + 7 → Dq (lsaT false) H o a' us Hd → K (.agg us) Hd) : ACalls P n_s_l05Bend [.ptr o 0 0, .agg vs] H K := by
  obtain ⟨l0, s0, rfl, r1, r2⟩ := hv
  have c1 := r1.1.cell
  have c2 := r2.1.cell
  apply W_s_l05Bend
  unfold F_s_l05Bend
  simp [c1, c2]
  refine C_s_l05Copy (c := false) ⟨l0, s0, rfl, r1, r2⟩ (by omega) fun us H1 h1 => ?_
  have hd := Dq.of (o := o) (St.grow hc (Abs.sub_refl _)) h1
  obtain ⟨l, s, rfl, cl, cs⟩ := dq_cell hd
  simp [stz_eq, putCells, cl, cs]
  have fin : ∀ (a' : TLsa) (l' s' : V) (H' : Heap), a'.links.length ≤ a.links.length + 7 ∧ a'.stubs.length ≤ a.stubs.length + 7 → Dq (lsaT false) H o a' (lsaRow a' l' s') H' → Ret K (.agg [.int .i64 a'.origin, .int .i64 a'.seq, .int .i64 a'.age, l', s']) H' := fun a' l' s' H' hl' hd' => Ret.of (h a' _ H' hl' hd')
  refine C_s_l01Below hd.cur fun k H2 _ _ _ s2 => ?_
  have hd2 := hd.step s2
  simp
  refine ⟨fun _ => ?_, fun _ => ⟨fun _ => ?_, fun _ => ⟨fun _ => ?_, fun _ => ⟨fun _ => ?_, fun _ => ⟨fun _ => ?_, fun _ => ⟨fun _ => ?_, fun _ => fin a l s H2 (by omega) hd2⟩⟩⟩⟩⟩⟩
  · refine C_pick [-1, 10, 9, 0] rfl rfl rfl (by simp) (by simp) hd2.cur fun y H3 _ s3 => ?_
    simp [stz_eq, putCells, cl, cs]
    exact fin ⟨y, a.seq, a.age, a.links, a.stubs⟩ l s H3 (by simp) (dq_nums (hd2.step s3) y a.seq a.age)
  · refine C_pick [0, 1000000, 1000001] rfl rfl rfl (by simp) (by simp) hd2.cur fun y H3 _ s3 => ?_
    simp [stz_eq, putCells, cl, cs]
    exact fin ⟨a.origin, y, a.age, a.links, a.stubs⟩ l s H3 (by simp) (dq_nums (hd2.step s3) a.origin y a.age)
  · refine C_pick [-1, 60, 61] rfl rfl rfl (by simp) (by simp) hd2.cur fun y H3 _ s3 => ?_
    simp [stz_eq, putCells, cl, cs]
    exact fin ⟨a.origin, a.seq, y, a.links, a.stubs⟩ l s H3 (by simp) (dq_nums (hd2.step s3) a.origin a.seq y)
  · refine C_s_l01Below hd2.cur fun x H3 _ _ _ s3 => ?_
    have hd3 := hd2.step s3
    refine C_pick [1, 0, 1000, 1001] rfl rfl rfl (by simp) (by simp) hd3.cur fun y H4 _ s4 => ?_
    have hd4 := hd3.step s4
    have hb1 : bsl 2 1 [V.int .i64 0, .int .i64 0] [(0, .agg [.int .i64 x, .int .i64 y])] = some [enLink (x, y)] := rfl
    simp [fillZ, putCells, hb1]
    intro o5 ho5
    refine dq_links (x := (x, y)) hd4 (sub_fresh ho5) (by omega) fun l' H' hd' cl' => ?_
    simp [stz_eq, putCells, cl', cs]
    exact fin { a with links := a.links ++ [(x, y)] } l' s H' (by simp) hd'
  · refine C_w_l01DrawPrefix hd2.cur fun net len H3 s3 => ?_
    have hd3 := hd2.step s3
    refine C_pick [1, 0, 1000, 1001] rfl rfl rfl (by simp) (by simp) hd3.cur fun y H4 _ s4 => ?_
    have hd4 := hd3.step s4
    have hb1 : bsl 3 1 [V.int .i64 0, .int .i64 0, .int .i64 0] [(0, .agg [.int .i64 net, .int .i64 len, .int .i64 y])] = some [enStub (net, len, y)] := rfl
    simp [fillZ, putCells, hb1]
    intro o5 ho5
    refine dq_stubs (x := (net, len, y)) hd4 (sub_fresh ho5) (by omega) fun s' H' hd' cs' => ?_
    simp [stz_eq, putCells, cl, cs']
    exact fin { a with stubs := a.stubs ++ [(net, len, y)] } l s' H' (by simp) hd'
  · refine ⟨InvBd5 H o a, ⟨7, Shr.of ⟨0, a, l, s, by omega, rfl, rfl, by omega, by omega, hd2⟩⟩, ?_⟩
    rintro m ys Hc ⟨i, a', l', s', hi, rfl, rfl, k1, k2, hd'⟩
    have cl' : cellsOf l' = [l'] ∧ cellOk l' = true ∧ notAny l' = true := by
      obtain ⟨l3, s3, e, c3, _⟩ := dq_cell hd'
      simp only [lsaRow, List.cons.injEq, and_true, true_and] at e
      rw [e.1]; exact c3
    have cs' : cellsOf s' = [s'] ∧ cellOk s' = true ∧ notAny s' = true := by
      obtain ⟨l3, s3, e, _, c3⟩ := dq_cell hd'
      simp only [lsaRow, List.cons.injEq, and_true, true_and] at e
      rw [e.2]; exact c3
    simp
    rw [i64_in (n := (i : Int) + 1) (by omega) (by omega)]
    refine ⟨fun hlt => ?_, fun hge => ?_⟩
    · generalize IntKind.i64.wrap (64000 + IntKind.i64.wrap (16 * (i : Int))) = net
      generalize IntKind.i64.wrap (12 + (i : Int).tmod 2) = len
      have hb1 : bsl 3 1 [V.int .i64 0, .int .i64 0, .int .i64 0] [(0, .agg [.int .i64 net, .int .i64 len, .int .i64 1])] = some [enStub (net, len, 1)] := rfl
      simp [fillZ, putCells, hb1]
      intro o5 ho5
      refine dq_stubs (x := (net, len, 1)) hd' (sub_fresh ho5) (by omega) fun s2 H' hd2' cs2 => ?_
      simp [stz_eq, putCells, cl', cs2]
      exact ⟨7 - (i + 1), by omega, Shr.of ⟨i + 1, _, l', s2, by omega, by simp, rfl, by simpa using k1, by simp; omega, hd2'⟩⟩
    · simp [stz_eq, putCells, cl', cs']
      exact fin a' l' s' Hc (by omega) hd'

end Go.Proofs.Ytaippfedjjjpeaa
