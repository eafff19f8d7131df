/-
Draws: deep values of one's own beside a cursor that moves.
-/
import Derived.Test.YtaippfedjjjpeaaGreatCur
import Derived.Test.YtaippfedjjjpeaaGreatLkM
import Derived.Test.YtaippfedjjjpeaaGreatPutR
import Derived.Test.YtaippfedjjjpeaaGreatLsaM
import Derived.Test.YtaippfedjjjpeaaGreatGraphA
set_option linter.all false
namespace Go.Proofs.YtaippfedjjjpeaaGreat
open Go Go.Abs Go.Proofs

theorem chain_rebaseQ {o : Nat} (y : Ob) : ∀ {es : List Ent} {H0 H : Heap}, Chain H0 es H → H0 o ≠ none → Chain (upd H0 o y) es (upd H o y)
  | [], H0, H, h, _ => by
    have e : H = H0 := h
    subst e; rfl
  | e :: es, H0, H, h, ho => by
    obtain ⟨Hm, h1, h2⟩ := h
    refine ⟨upd Hm o y, h1.rebase y ho, chain_rebaseQ y h2 ?_⟩
    cases hx : H0 o with
    | none => exact absurd hx ho
    | some z => rw [h1.sub _ _ hx]; simp
theorem held_del {o sz : Nat} {rows : List (List V)} {v : V} {H0 H : Heap} (h : Held H0 sz rows v H) (ho : H0 o ≠ none) : Held (del H0 o) sz rows v (del H o) := by
  rcases h with ⟨h1, h2, rfl⟩ | ⟨p, cap, h1, h2, hc, rfl⟩
  · exact .inl ⟨h1, h2, rfl⟩
  · have hne : p ≠ o := by rintro rfl; exact ho h1
    refine .inr ⟨p, cap, by unfold del; rw [if_neg hne]; exact h1, h2, hc, ?_⟩
    funext i
    unfold del upd
    by_cases e : i = o
    · subst e; simp [Ne.symm hne]
    · simp [e]
theorem chain_del {o : Nat} : ∀ {es : List Ent} {H0 H : Heap}, Chain H0 es H → H0 o ≠ none → Chain (del H0 o) es (del H o)
  | [], H0, H, h, _ => by
    have e : H = H0 := h
    subst e; rfl
  | e :: es, H0, H, h, ho => by
    obtain ⟨Hm, h1, h2⟩ := h
    refine ⟨del Hm o, held_del h1 ho, chain_del h2 ?_⟩
    cases hx : H0 o with
    | none => exact absurd hx ho
    | some z => rw [h1.sub _ _ hx]; simp
theorem St.del {H H' : Heap} {o : Nat} (h : St H o H') : Abs.sub (Abs.del H o) (Abs.del H' o) := by
  obtain ⟨_, y, _, h2⟩ := h
  have := del_mono (o := o) h2
  rwa [del_upd] at this
theorem St.low {H H' : Heap} {o : Nat} (h : St H o H') : Abs.sub (Abs.del H o) H' := by
  obtain ⟨_, y, _, h2⟩ := h
  exact sub_trans del_sub_upd h2

section
variable {α : Type} {T : Ty α}
/-- Read where the cursor does not stand. -/
def Rq (T : Ty α) (H : Heap) (o : Nat) (a : α) (vs : List V) : Prop := T.rd (Abs.del H o) a vs
theorem Rq.rd {H : Heap} {o : Nat} {a : α} {vs : List V} (h : Rq T H o a vs) : T.rd H a vs := T.mono h del_sub
theorem Rq.st {H H' : Heap} {o : Nat} {a : α} {vs : List V} (h : Rq T H o a vs) (hs : St H o H') : Rq T H' o a vs := T.mono h (St.del hs)
theorem Rq.mono {H H' : Heap} {o : Nat} {a : α} {vs : List V} (h : Rq T H o a vs) (hs : Abs.sub H H') : Rq T H' o a vs := T.mono h (del_mono hs)
/-- One's own, and the cursor has moved since. -/
def Dq (T : Ty α) (Hs : Heap) (o : Nat) (a : α) (vs : List V) (H : Heap) : Prop := ∃ Hb, St Hs o Hb ∧ Dp T Hb a vs H
theorem Dq.cur {Hs H : Heap} {o : Nat} {a : α} {vs : List V} (h : Dq T Hs o a vs H) : IsCur H o := by
  obtain ⟨Hb, h1, h2⟩ := h; exact h1.1.mono h2.sub
theorem Dq.st {Hs H : Heap} {o : Nat} {a : α} {vs : List V} (h : Dq T Hs o a vs H) : St Hs o H := by
  obtain ⟨Hb, h1, h2⟩ := h; exact h1.more h2.sub
theorem Dq.rq {Hs H : Heap} {o : Nat} {a : α} {vs : List V} (h : Dq T Hs o a vs H) : Rq T H o a vs := by
  obtain ⟨Hb, h1, es, h2, h3⟩ := h
  exact Dp.rd ⟨es, h2, chain_del h3 h1.1.some⟩
theorem Dq.grow {Hs H H' : Heap} {o : Nat} {a : α} {vs : List V} (h : Dq T Hs o a vs H) (hs : Abs.sub H H') : Dq T Hs o a vs H' := by
  obtain ⟨Hb, h1, h2⟩ := h
  obtain ⟨Hb', g1, g2⟩ := h2.rise hs
  exact ⟨Hb', h1.more g1, g2⟩
theorem Dq.step {Hs H H' : Heap} {o : Nat} {a : α} {vs : List V} (h : Dq T Hs o a vs H) (hs : St H o H') : Dq T Hs o a vs H' := by
  obtain ⟨Hb, h1, es, h2, h3⟩ := h
  obtain ⟨hc, y, g1, g2⟩ := hs
  have h4 := chain_rebaseQ (o := o) y h3 h1.1.some
  have h5 : St Hs o (upd Hb o y) := h1.trans (St.of (g1.mono h3.sub) h1.1)
  exact Dq.grow ⟨_, h5, es, h2, h4⟩ g2
theorem Dq.of {Hs H H' : Heap} {o : Nat} {a : α} {vs : List V} (h : St Hs o H) (h' : Dp T H a vs H') : Dq T Hs o a vs H' := ⟨H, h, h'⟩
theorem Dq.from {Hs Hs' H : Heap} {o : Nat} {a : α} {vs : List V} (h : St Hs o Hs') (h' : Dq T Hs' o a vs H) : Dq T Hs o a vs H := by
  obtain ⟨Hb, h1, h2⟩ := h'
  exact ⟨Hb, h.trans h1, h2⟩
end
/-- The same for a flat slice. -/
def Hx (Hs : Heap) (o sz : Nat) (rows : List (List V)) (v : V) (H : Heap) : Prop := ∃ Hb, St Hs o Hb ∧ Held Hb sz rows v H
theorem hx_cur {Hs H : Heap} {o sz : Nat} {rows : List (List V)} {v : V} (h : Hx Hs o sz rows v H) : IsCur H o := by
  obtain ⟨Hb, h1, h2⟩ := h; exact h1.1.mono h2.sub
theorem hx_st {Hs H : Heap} {o sz : Nat} {rows : List (List V)} {v : V} (h : Hx Hs o sz rows v H) : St Hs o H := by
  obtain ⟨Hb, h1, h2⟩ := h; exact h1.more h2.sub
theorem hx_rc {Hs H : Heap} {o sz : Nat} {rows : List (List V)} {v : V} (h : Hx Hs o sz rows v H) (hr : ∀ r ∈ rows, r.length = sz) : Rd (Abs.del H o) sz v rows := by
  obtain ⟨Hb, h1, h2⟩ := h
  exact (held_del h2 h1.1.some).rd hr
theorem hx_grow {Hs H H' : Heap} {o sz : Nat} {rows : List (List V)} {v : V} (h : Hx Hs o sz rows v H) (hs : Abs.sub H H') : Hx Hs o sz rows v H' := by
  obtain ⟨Hb, h1, h2⟩ := h
  obtain ⟨Hb', g1, g2⟩ := h2.rise hs
  exact ⟨Hb', h1.more g1, g2⟩
theorem hx_step {Hs H H' : Heap} {o sz : Nat} {rows : List (List V)} {v : V} (h : Hx Hs o sz rows v H) (hs : St H o H') : Hx Hs o sz rows v H' := by
  obtain ⟨Hb, h1, h2⟩ := h
  obtain ⟨hc, y, g1, g2⟩ := hs
  exact hx_grow ⟨_, h1.trans (St.of (g1.mono h2.sub) h1.1), h2.rebase y (o := o) h1.1.some⟩ g2
/-- Two of one's own. -/
theorem dq_lsa {b : Bool} {a : TLsa} {l s : V} {Hs H1 H2 : Heap} {o : Nat} (h1 : Hx Hs o 2 (a.links.map enLink) l H1) (h2 : Hx H1 o 3 (a.stubs.map enStub) s H2) : Dq (lsaT b) Hs o a (lsaRow a l s) H2 := by
  obtain ⟨Hb, g1, g2⟩ := h2
  obtain ⟨Hc, k1, k2⟩ := hx_step h1 g1
  exact ⟨Hc, k1, Dp.lsa k2 g2⟩
theorem dq_links {b : Bool} {a : TLsa} {l s : V} {Hs H Hb : Heap} {o : Nat} {x : TLink} {K : V → Heap → Prop} (h : Dq (lsaT b) Hs o a (lsaRow a l s) H) (hs : Abs.sub H Hb) (hl : a.links.length ≤ 1000)
    (hk : ∀ l' H', Dq (lsaT b) Hs o { a with links := a.links ++ [x] } (lsaRow a l' s) H' → (cellsOf l' = [l'] ∧ cellOk l' = true ∧ notAny l' = true) → K l' H') : appendK Hb 2 16 l [enLink x] K := by
  obtain ⟨Hc, h1, h2⟩ := h
  obtain ⟨l2, s2, Hm, e, g1, g2⟩ := lsa_dp h2
  simp only [lsaRow, List.cons.injEq, and_true, true_and] at e
  obtain ⟨rfl, rfl⟩ := e
  obtain ⟨Hm', k1, k2⟩ := g1.swap g2
  refine k2.append hs (by simp) (by simp; omega) fun v' H' H'' ho' hs' => ?_
  obtain ⟨Hn, m1, m2⟩ := k1.swap ho'
  have := Dp.lsa (b := b) (a := { a with links := a.links ++ [x] }) (by rw [List.map_append]; exact m1) m2
  exact hk v' H' (Dq.grow ⟨Hc, h1, this⟩ hs') ho'.cell
theorem dq_stubs {b : Bool} {a : TLsa} {l s : V} {Hs H Hb : Heap} {o : Nat} {x : TStub} {K : V → Heap → Prop} (h : Dq (lsaT b) Hs o a (lsaRow a l s) H) (hs : Abs.sub H Hb) (hl : a.stubs.length ≤ 1000)
    (hk : ∀ s' H', Dq (lsaT b) Hs o { a with stubs := a.stubs ++ [x] } (lsaRow a l s') H' → (cellsOf s' = [s'] ∧ cellOk s' = true ∧ notAny s' = true) → K s' H') : appendK Hb 3 24 s [enStub x] K := by
  obtain ⟨Hc, h1, h2⟩ := h
  obtain ⟨l2, s2, Hm, e, g1, g2⟩ := lsa_dp h2
  simp only [lsaRow, List.cons.injEq, and_true, true_and] at e
  obtain ⟨rfl, rfl⟩ := e
  refine g2.append hs (by simp) (by simp; omega) fun v' H' H'' ho' hs' => ?_
  have := Dp.lsa (b := b) (a := { a with stubs := a.stubs ++ [x] }) g1 (by rw [List.map_append]; exact ho')
  exact hk v' H' (Dq.grow ⟨Hc, h1, this⟩ hs') ho'.cell
theorem dq_cell {b : Bool} {a : TLsa} {vs : List V} {Hs H : Heap} {o : Nat} (h : Dq (lsaT b) Hs o a vs H) : ∃ l s, vs = lsaRow a l s ∧ (cellsOf l = [l] ∧ cellOk l = true ∧ notAny l = true) ∧ (cellsOf s = [s] ∧ cellOk s = true ∧ notAny s = true) := by
  obtain ⟨l, s, e, h1, h2⟩ := h.rq
  exact ⟨l, s, e, h1.1.cell, h2.1.cell⟩
/-- The plain numbers of an advertisement do not count. -/
theorem dq_nums {b : Bool} {a : TLsa} {l s : V} {Hs H : Heap} {o : Nat} (h : Dq (lsaT b) Hs o a (lsaRow a l s) H) (x y z : Int) : Dq (lsaT b) Hs o ⟨x, y, z, a.links, a.stubs⟩ (lsaRow ⟨x, y, z, a.links, a.stubs⟩ l s) H := by
  obtain ⟨Hc, h1, h2⟩ := h
  obtain ⟨l2, s2, Hm, e, g1, g2⟩ := lsa_dp h2
  simp only [lsaRow, List.cons.injEq, and_true, true_and] at e
  obtain ⟨rfl, rfl⟩ := e
  exact ⟨Hc, h1, Dp.lsa (a := ⟨x, y, z, a.links, a.stubs⟩) g1 g2⟩

end Go.Proofs.YtaippfedjjjpeaaGreat
/-
Contracts of the draws of advertisements.
-/
namespace Go.Proofs.YtaippfedjjjpeaaGreat
open Go Go.Abs Go.Proofs

theorem psz_pos (len : Int) : psz len ≠ 0 := by
  unfold psz
  have : (0 : Int) < 2 ^ (16 - len).toNat := Int.pow_pos (by omega)
  omega
set_option maxHeartbeats 2000000 in
theorem C_w_l01DrawPrefix {o : Nat} {H : Heap} {K : V → Heap → Prop} (hc : IsCur H o) (h : ∀ net len Hd, St H o Hd → K (.agg [.int .i64 net, .int .i64 len]) Hd) : ACalls P n_s_l01DrawPrefix [.ptr o 0 0] H K := by
  apply W_s_l01DrawPrefix
  unfold F_s_l01DrawPrefix
  refine C_s_l01Below hc fun a H1 a0 a1 _ s1 => ?_
  refine C_s_l01Below s1.1 fun b H2 b0 b1 _ s2 => ?_
  have s2 := s1.trans s2
  simp
  refine C_s_l01Below s2.1 fun c H3 c0 c1 _ s3 => ?_
  have s3 := s2.trans s3
  simp
  rw [i64_in (n := 8 + b) (by omega) (by omega), i64_in (n := 8 + c) (by omega) (by omega)]
  refine C_pick [0, 1, 4, 8, 12, 15, 16, a, 8 + b, 8 + c] rfl rfl rfl (by simp) (by simp) s3.1 fun n H4 hn s4 => ?_
  have s4 := s3.trans s4
  have hn' : 0 ≤ n ∧ n ≤ 16 := by
    simp only [List.mem_cons, List.not_mem_nil, or_false] at hn
    omega
  refine C_s_l01Below s4.1 fun d H5 _ _ _ s5 => ?_
  have s5 := s4.trans s5
  refine C_s_l01Below s5.1 fun e H6 _ _ _ s6 => ?_
  have s6 := s5.trans s6
  refine C_pick [0, 2560, d, e] rfl rfl rfl (by simp) (by simp) s6.1 fun net H7 _ s7 => ?_
  have s7 := s6.trans s7
  simp [stz_eq, putCells, fillZ]
  refine ⟨noHeap, noHeap_sub _, ?_⟩
  refine C_s_l01Size2 hn' ⟨noHeap_sub _, ?_⟩
  simp [psz_pos]
  refine C_s_l01Once s7.1 fun q H8 s8 => ?_
  have s8 := s7.trans s8
  simp [stz_eq, putCells]
  refine ⟨fun _ => ?_, fun _ => Ret.of (h _ _ _ s8)⟩
  refine C_s_l01Below s8.1 fun k H9 _ _ _ s9 => ?_
  have s9 := s8.trans s9
  simp [stz_eq, putCells]
  refine ⟨fun _ => ?_, fun _ => ⟨fun _ => ?_, fun _ => ⟨fun _ => Ret.of (h _ _ _ s9), fun _ => Ret.of (h _ _ _ s9)⟩⟩⟩
  · refine C_pick [-1, 17, 3] rfl rfl rfl (by simp) (by simp) s9.1 fun y H10 _ s10 => ?_
    simp [stz_eq, putCells]
    exact Ret.of (h _ _ _ (s9.trans s10))
  · refine C_pick [-1, 65536, 1, 65535] rfl rfl rfl (by simp) (by simp) s9.1 fun y H10 _ s10 => ?_
    simp [stz_eq, putCells]
    exact Ret.of (h _ _ _ (s9.trans s10))

def InvDl (H : Heap) (o : Nat) (n : Int) (m : Nat) (ys : List V) (Hc : Heap) : Prop :=
  ∃ (i : Nat) (u : V) (ls : List TLink), (i : Int) ≤ max n 0 ∧ ys = [u, .int .i64 (i : Nat)] ∧ m = n.toNat - i ∧ ls.length ≤ i ∧ Hx H o 2 (ls.map enLink) u Hc
def InvDs1 (H : Heap) (o : Nat) (n : Int) (m : Nat) (ys : List V) (Hc : Heap) : Prop :=
  ∃ (i : Nat) (u : V) (t : List TStub), (i : Int) ≤ max n 0 ∧ ys = [.box [u], .int .i64 (i : Nat)] ∧ m = n.toNat - i ∧ t.length ≤ i ∧ St H o Hc ∧ Rd (Abs.del Hc o) 3 u (t.map enStub)
def InvDs2 (H : Heap) (t : List TStub) (m : Nat) (ys : List V) (Hc : Heap) : Prop :=
  ∃ (i : Nat) (u : V), i ≤ t.length ∧ ys = [u, .int .i64 (i : Nat)] ∧ m = t.length - i ∧ Held H 3 ((t.take i).map enStub) u Hc
set_option maxHeartbeats 2000000 in
theorem C_w_l05DrawStubs {o : Nat} {n : Int} {H : Heap} {K : V → Heap → Prop} (hc : IsCur H o) (hn : n ≤ 10) (h : ∀ (ss : List TStub) u Hd, ss.length ≤ 10 → Hx H o 3 (ss.map enStub) u Hd → K u Hd) : ACalls P n_s_l05DrawStubs [.ptr o 0 0, .int .i64 n] H K := by
  apply W_s_l05DrawStubs
  unfold F_s_l05DrawStubs
  simp [stz_eq, putCells, fillZ, bsl_nil]
  refine ⟨InvDs1 H o n, ⟨n.toNat, Shr.of ⟨0, .nils, [], by omega, rfl, by omega, by simp, St.grow hc (Abs.sub_refl _), Rd.nils⟩⟩, ?_⟩
  rintro m ys Hc ⟨i, u, t, hi, rfl, rfl, hlen, st, hu⟩
  have cu := hu.cell
  simp
  refine ⟨fun hlt => ?_, fun hge => ?_⟩
  · rw [i64_in (n := (i : Int) + 1) (by omega) (by omega)]
    refine C_w_l01DrawPrefix st.1 fun net len H1 s1 => ?_
    have st1 := st.trans s1
    simp [stz_eq, putCells]
    have put : ∀ (net len : Int) (H2 : Heap), St Hc o H2 → ∃ S, Abs.sub S H2 ∧ ACalls P n_s_l01Below [.ptr o 0 0, .int .i64 9] H2 fun v23 H24 => Abs.sub S H24 ∧ bnd (aBinN .add (.int .i64 1) v23) fun t25 =>
        bnd (fillZ [(.int .i64 0), (.int .i64 0), (.int .i64 0)] [(0, 2, .agg [.int .i64 net, .int .i64 len]), (2, 1, t25)]) fun c26 => ACalls P n_s_PutRoute [.agg [u], (.agg c26)] H24 fun v27 H28 => Abs.sub S H28 ∧
        bnd (aExtract 0 v27) fun t29 => bnd (aExtract 1 v27) fun _ => bnd (stz 1 [u] 0 t29) fun c31 => ∃ n6, n6 < n.toNat - i ∧ Shr (InvDs1 H o n n6 [.box c31, .int .i64 ((i : Int) + 1)]) H28 := fun net len H2 s2 => by
      refine ⟨noHeap, noHeap_sub _, ?_⟩
      refine C_s_l01Below s2.1 fun x H3 x0 x1 _ s3 => ⟨noHeap_sub _, ?_⟩
      have s3 := s2.trans s3
      have hu3 := hu.mono (St.del s3)
      simp [fillZ, putCells]
      refine C_s_PutRoute (t := t) (k := (net, len, IntKind.i64.wrap (1 + x))) (hu3.mono del_sub) (by omega) fun w H4 h4 => ⟨noHeap_sub _, ?_⟩
      have c4 := h4.cell
      simp [stz_eq, putCells, c4]
      have hx4 : Hx Hc o 3 ((putT t (net, len, IntKind.i64.wrap (1 + x))).1.map enStub) w H4 := ⟨H3, s3, h4⟩
      have hl4 := putT_len t (net, len, IntKind.i64.wrap (1 + x))
      exact ⟨n.toNat - (i + 1), by omega, Shr.of ⟨i + 1, w, _, by omega, by simp, rfl, by omega, st.trans (hx_st hx4), hx_rc hx4 enStub_len⟩⟩
    simp [fillZ, putCells, stz_eq, cu] at put
    refine C_s_l01Once st1.1 fun q H2 s2 => ?_
    have s2 := s1.trans s2
    simp
    refine ⟨fun _ => ?_, fun _ => ?_⟩
    · refine C_s_l01Below s2.1 fun x H3 x0 x1 _ s3 => ?_
      simp [fillZ, putCells, stz_eq]
      have := put (IntKind.i64.wrap (256 * x)) 8 H3 (s2.trans s3)
      simpa [fillZ, putCells, stz_eq, cu] using this
    · have := put net len H2 s2
      simpa [fillZ, putCells, stz_eq, cu] using this
  · intro o5 ho5
    refine ⟨InvDs2 Hc t, ⟨t.length, Shr.of ⟨0, _, by omega, rfl, by omega, Held.new ho5⟩⟩, ?_⟩
    rintro m ys Hd ⟨j, w, hj, rfl, rfl, hw⟩
    simp [hu.len]
    refine ⟨fun hlt => ?_, fun hge => ?_⟩
    · have hst2 : Abs.sub (Abs.del Hc o) Hd := sub_trans del_sub hw.sub
      have hgd : (t.map enStub).getD j [] = enStub t[j] := by simp [hlt]
      refine (hu.mono hst2).idx (by omega) (by simpa using hlt) fun p hp => ?_
      simp only [Int.toNat_natCast, hgd] at hp
      refine hp.fld fun p1 hp1 => ?_
      rw [hp1.ld]
      simp
      refine (hu.mono hst2).idx (by omega) (by simpa using hlt) fun p hp => ?_
      simp only [Int.toNat_natCast, hgd] at hp
      refine hp.fld fun p1 hp1 => ?_
      rw [hp1.ld]
      have hb1 : bsl 3 1 [V.int .i64 0, .int .i64 0, .int .i64 0] [(0, .agg [.int .i64 t[j].1, .int .i64 t[j].2.1, .int .i64 t[j].2.2])] = some [enStub t[j]] := rfl
      simp [fillZ, putCells, hb1]
      intro o7 ho7
      refine hw.append (sub_fresh ho7) (by simp) (by simp; omega) fun v' H' H'' ho' hs' => ?_
      rw [i64_in (n := (j : Int) + 1) (by omega) (by omega)]
      refine ⟨t.length - (j + 1), by omega, H'', hs', j + 1, v', by omega, by simp, rfl, ?_⟩
      rw [List.take_succ_eq_append_getElem hlt, List.map_append]
      exact ho'
    · have e : j = t.length := by omega
      subst e
      rw [List.take_length] at hw
      exact Ret.of (h t w Hd (by omega) ⟨Hc, st, hw⟩)

/-! #### advertisements -/
def small (a : TLsa) : Prop := a.links.length ≤ 40 ∧ a.stubs.length ≤ 40
def InvBd5 (H : Heap) (o : Nat) (a : TLsa) (m : Nat) (ys : List V) (Hc : Heap) : Prop :=
  ∃ (i : Nat) (a' : TLsa) (l s : V), i ≤ 7 ∧ ys = [.box [.int .i64 0, .int .i64 0, .int .i64 0, .nils, .nils], .box (lsaRow a' l s), .int .i64 (i : Nat)] ∧ m = 7 - i ∧ a'.links.length ≤ a.links.length + 7 ∧ a'.stubs.length ≤ a.stubs.length + i ∧ Dq (lsaT false) H o a' (lsaRow a' l s) Hc
set_option maxHeartbeats 4000000 in
theorem C_w_l05Bend {o : Nat} {b : Bool} {a : TLsa} {vs : List V} {H : Heap} {K : V → Heap → Prop} (hc : IsCur H o) (hv : (lsaT b).rd H a vs) (hl : a.links.length ≤ 100 ∧ a.stubs.length ≤ 100)
    (h : ∀ (a' : TLsa) us Hd, a'.links.length ≤ a.links.length + 7 ∧ a'.stubs.length ≤ a.stubs.length + 7 → Dq (lsaT false) H o a' us Hd → K (.agg us) Hd) : ACalls P n_s_l05Bend [.ptr o 0 0, .agg vs] H K := by
  obtain ⟨l0, s0, rfl, r1, r2⟩ := hv
  have c1 := r1.1.cell
  have c2 := r2.1.cell
  apply W_s_l05Bend
  unfold F_s_l05Bend
  simp [c1, c2]
  refine C_s_l05Copy (c := false) ⟨l0, s0, rfl, r1, r2⟩ (by omega) fun us H1 h1 => ?_
  have hd := Dq.of (o := o) (St.grow hc (Abs.sub_refl _)) h1
  obtain ⟨l, s, rfl, cl, cs⟩ := dq_cell hd
  simp [stz_eq, putCells, cl, cs]
  have fin : ∀ (a' : TLsa) (l' s' : V) (H' : Heap), a'.links.length ≤ a.links.length + 7 ∧ a'.stubs.length ≤ a.stubs.length + 7 → Dq (lsaT false) H o a' (lsaRow a' l' s') H' → Ret K (.agg [.int .i64 a'.origin, .int .i64 a'.seq, .int .i64 a'.age, l', s']) H' := fun a' l' s' H' hl' hd' => Ret.of (h a' _ H' hl' hd')
  refine C_s_l01Below hd.cur fun k H2 _ _ _ s2 => ?_
  have hd2 := hd.step s2
  simp
  refine ⟨fun _ => ?_, fun _ => ⟨fun _ => ?_, fun _ => ⟨fun _ => ?_, fun _ => ⟨fun _ => ?_, fun _ => ⟨fun _ => ?_, fun _ => ⟨fun _ => ?_, fun _ => fin a l s H2 (by omega) hd2⟩⟩⟩⟩⟩⟩
  · refine C_pick [-1, 10, 9, 0] rfl rfl rfl (by simp) (by simp) hd2.cur fun y H3 _ s3 => ?_
    simp [stz_eq, putCells, cl, cs]
    exact fin ⟨y, a.seq, a.age, a.links, a.stubs⟩ l s H3 (by simp) (dq_nums (hd2.step s3) y a.seq a.age)
  · refine C_pick [0, 1000000, 1000001] rfl rfl rfl (by simp) (by simp) hd2.cur fun y H3 _ s3 => ?_
    simp [stz_eq, putCells, cl, cs]
    exact fin ⟨a.origin, y, a.age, a.links, a.stubs⟩ l s H3 (by simp) (dq_nums (hd2.step s3) a.origin y a.age)
  · refine C_pick [-1, 60, 61] rfl rfl rfl (by simp) (by simp) hd2.cur fun y H3 _ s3 => ?_
    simp [stz_eq, putCells, cl, cs]
    exact fin ⟨a.origin, a.seq, y, a.links, a.stubs⟩ l s H3 (by simp) (dq_nums (hd2.step s3) a.origin a.seq y)
  · refine C_s_l01Below hd2.cur fun x H3 _ _ _ s3 => ?_
    have hd3 := hd2.step s3
    refine C_pick [1, 0, 1000, 1001] rfl rfl rfl (by simp) (by simp) hd3.cur fun y H4 _ s4 => ?_
    have hd4 := hd3.step s4
    have hb1 : bsl 2 1 [V.int .i64 0, .int .i64 0] [(0, .agg [.int .i64 x, .int .i64 y])] = some [enLink (x, y)] := rfl
    simp [fillZ, putCells, hb1]
    intro o5 ho5
    refine dq_links (x := (x, y)) hd4 (sub_fresh ho5) (by omega) fun l' H' hd' cl' => ?_
    simp [stz_eq, putCells, cl', cs]
    exact fin { a with links := a.links ++ [(x, y)] } l' s H' (by simp) hd'
  · refine C_w_l01DrawPrefix hd2.cur fun net len H3 s3 => ?_
    have hd3 := hd2.step s3
    refine C_pick [1, 0, 1000, 1001] rfl rfl rfl (by simp) (by simp) hd3.cur fun y H4 _ s4 => ?_
    have hd4 := hd3.step s4
    have hb1 : bsl 3 1 [V.int .i64 0, .int .i64 0, .int .i64 0] [(0, .agg [.int .i64 net, .int .i64 len, .int .i64 y])] = some [enStub (net, len, y)] := rfl
    simp [fillZ, putCells, hb1]
    intro o5 ho5
    refine dq_stubs (x := (net, len, y)) hd4 (sub_fresh ho5) (by omega) fun s' H' hd' cs' => ?_
    simp [stz_eq, putCells, cl, cs']
    exact fin { a with stubs := a.stubs ++ [(net, len, y)] } l s' H' (by simp) hd'
  · refine ⟨InvBd5 H o a, ⟨7, Shr.of ⟨0, a, l, s, by omega, rfl, rfl, by omega, by omega, hd2⟩⟩, ?_⟩
    rintro m ys Hc ⟨i, a', l', s', hi, rfl, rfl, k1, k2, hd'⟩
    have cl' : cellsOf l' = [l'] ∧ cellOk l' = true ∧ notAny l' = true := by
      obtain ⟨l3, s3, e, c3, _⟩ := dq_cell hd'
      simp only [lsaRow, List.cons.injEq, and_true, true_and] at e
      rw [e.1]; exact c3
    have cs' : cellsOf s' = [s'] ∧ cellOk s' = true ∧ notAny s' = true := by
      obtain ⟨l3, s3, e, _, c3⟩ := dq_cell hd'
      simp only [lsaRow, List.cons.injEq, and_true, true_and] at e
      rw [e.2]; exact c3
    simp
    rw [i64_in (n := (i : Int) + 1) (by omega) (by omega)]
    refine ⟨fun hlt => ?_, fun hge => ?_⟩
    · generalize IntKind.i64.wrap (64000 + IntKind.i64.wrap (16 * (i : Int))) = net
      generalize IntKind.i64.wrap (12 + (i : Int).tmod 2) = len
      have hb1 : bsl 3 1 [V.int .i64 0, .int .i64 0, .int .i64 0] [(0, .agg [.int .i64 net, .int .i64 len, .int .i64 1])] = some [enStub (net, len, 1)] := rfl
      simp [fillZ, putCells, hb1]
      intro o5 ho5
      refine dq_stubs (x := (net, len, 1)) hd' (sub_fresh ho5) (by omega) fun s2 H' hd2' cs2 => ?_
      simp [stz_eq, putCells, cl', cs2]
      exact ⟨7 - (i + 1), by omega, Shr.of ⟨i + 1, _, l', s2, by omega, by simp, rfl, by simpa using k1, by simp; omega, hd2'⟩⟩
    · simp [stz_eq, putCells, cl', cs']
      exact fin a' l' s' Hc (by omega) hd'

end Go.Proofs.YtaippfedjjjpeaaGreat
/-
Contracts of the draws of graphs beside advertisements.
-/
namespace Go.Proofs.YtaippfedjjjpeaaGreat
open Go Go.Abs Go.Proofs

def InvWp (e : TEdge) (es : List TEdge) (H : Heap) (m : Nat) (ys : List V) (Hc : Heap) : Prop :=
  ∃ (i : Nat) (d : Bool) (u : V) (out : List TEdge), i ≤ es.length ∧ ys = [.box (enEdge e), u, .bool d, .int .i64 (i : Nat)] ∧ m = es.length - i ∧ out.length ≤ i + (if d then 1 else 0) ∧ Held H 3 (out.map enEdge) u Hc
def JWp1 (H : Heap) (ys : List V) (Hc : Heap) : Prop := ∃ b, ys = [.bool b] ∧ Hc = H
def JWp2 (d : Bool) (i : Nat) (H : Heap) (ys : List V) (Hc : Heap) : Prop :=
  ∃ (u : V) (d' : Bool) (out : List TEdge), ys = [u, .bool d'] ∧ out.length ≤ i + (if d' then 1 else 0) ∧ Held H 3 (out.map enEdge) u Hc
set_option maxHeartbeats 2000000 in
theorem C_w_l03Put {e : TEdge} {es : List TEdge} {v : V} {H : Heap} {K : V → Heap → Prop} (hv : Rd H 3 v (es.map enEdge)) (hl : es.length ≤ 1000)
    (h : ∀ (es' : List TEdge) u H', es'.length ≤ es.length + 1 → Held H 3 (es'.map enEdge) u H' → K u H') : ACalls P n_s_l03Put [v, .agg (enEdge e)] H K := by
  apply W_s_l03Put
  unfold F_s_l03Put
  have hb0 : bsl 3 0 [V.int .i64 0, .int .i64 0, .int .i64 0] [] = some [] := rfl
  simp [hb0, bsl_one]
  intro o2 ho2
  refine ⟨InvWp e es H, ⟨es.length, Shr.of ⟨0, false, .slice o2 0 0 (some 0), [], by omega, rfl, by omega, by simp, Held.new ho2⟩⟩, ?_⟩
  rintro m ys Hc ⟨i, d, u, out, hi, rfl, rfl, hlen, hu⟩
  simp [hv.len]
  refine ⟨fun hlt => ?_, fun hge => ?_⟩
  · have hgd : (es.map enEdge).getD i [] = enEdge es[i] := by simp [hlt]
    refine (hv.mono hu.sub).idx (by omega) (by simpa using hlt) fun p hpp => ?_
    simp only [Int.toNat_natCast, hgd] at hpp
    rw [hpp.ld]
    simp [stz_eq, putCells]
    refine ⟨JWp2 d i H, ?_, ?_⟩
    · refine ⟨fun ys Hd => (∃ b, ys = [.bool b] ∧ (b = true → d = false)) ∧ Hd = Hc, ?_, ?_⟩
      · refine ⟨fun q => ⟨fun q1 => ?_, fun q1 => ⟨fun q2 => ?_, fun q2 => ?_⟩⟩, fun q => ?_⟩
        all_goals exact Shr.of ⟨⟨_, rfl, by simp_all⟩, rfl⟩
      · rintro ys Hd ⟨⟨b, rfl, hb⟩, rfl⟩
        simp [bsl_one]
        refine ⟨fun q => ?_, fun q => ?_⟩
        · intro o7 ho7
          have hd := hb q
          subst hd
          refine hu.append (sub_fresh ho7) (by simp) (by simp at hlen ⊢; omega) fun v' H' H'' ho' hs' => ?_
          refine ⟨H'', hs', v', true, out ++ [e], rfl, by simp at hlen ⊢; omega, by simpa using ho'⟩
        · exact Shr.of ⟨u, d, out, rfl, hlen, hu⟩
    · rintro ys Hd ⟨u2, d2, out2, rfl, hl2, hu2⟩
      simp [bsl_one]
      rw [i64_in (n := (i : Int) + 1) (by omega) (by omega)]
      have hl3 : out2.length ≤ i + 1 := by split at hl2 <;> omega
      have add : ∀ (o7 : Nat), Hd o7 = none → appendK (upd Hd o7 ⟨3, [enEdge es[i]]⟩) 3 24 u2 [enEdge es[i]] fun v47 H48 =>
          ∃ n6, n6 < es.length - i ∧ Shr (InvWp e es H n6 [.box (enEdge e), v47, .bool d2, .int .i64 ((i : Int) + 1)]) H48 := fun o7 ho7 => by
        refine hu2.append (sub_fresh ho7) (by simp) (by simp; omega) fun v' H' H'' ho' hs' => ?_
        exact ⟨es.length - (i + 1), by omega, H'', hs', i + 1, d2, v', out2 ++ [es[i]], by omega, by simp, rfl, by simp; omega, by simpa using ho'⟩
      refine ⟨fun _ => add, fun _ => ⟨fun _ => add, fun _ => ?_⟩⟩
      exact ⟨es.length - (i + 1), by omega, Shr.of ⟨i + 1, d2, u2, out2, by omega, by simp, rfl, by omega, hu2⟩⟩
  · have : i = es.length := by omega
    subst this
    refine ⟨fun q => ?_, fun q => ?_⟩
    · intro o7 ho7
      subst q
      refine hu.append (sub_fresh ho7) (by simp) (by simp at hlen ⊢; omega) fun v' H' H'' ho' hs' => ?_
      exact Ret.shr (h (out ++ [e]) _ _ (by simp at hlen ⊢; omega) (by simpa using ho')) rfl hs'
    · subst q
      exact Ret.of (h out _ _ (by simpa using hlen) hu)


theorem edge_row (es : List TEdge) : ∀ r ∈ es.map enEdge, r.length = 3 := by
  intro r hr
  obtain ⟨e, _, rfl⟩ := List.mem_map.1 hr
  rfl
theorem w_put {o : Nat} {e : TEdge} {es : List TEdge} {v : V} {Hs H : Heap} {K : V → Heap → Prop} (hu : Hx Hs o 3 (es.map enEdge) v H) (hl : es.length ≤ 1000)
    (h : ∀ (es' : List TEdge) u H', es'.length ≤ es.length + 1 → Hx Hs o 3 (es'.map enEdge) u H' → (cellsOf u = [u] ∧ cellOk u = true ∧ notAny u = true) → K u H') : ACalls P n_s_l03Put [v, .agg (enEdge e)] H K :=
  C_w_l03Put (Rd.mono (hx_rc hu (edge_row es)) del_sub) hl fun es' u H' h1 h2 => h es' u H' h1 ⟨H, hx_st hu, h2⟩ h2.cell
def InvDgr (H : Heap) (o : Nat) (n k : Int) (m : Nat) (ys : List V) (Hc : Heap) : Prop :=
  ∃ (i : Nat) (u : V) (es : List TEdge), i ≤ k.toNat ∧ ys = [.box [.int .i64 0, .nils], .box [.int .i64 n, u], .int .i64 (i : Nat)] ∧ m = k.toNat - i ∧ es.length ≤ 60 ∧ Hx H o 3 (es.map enEdge) u Hc
def JDgr (H : Heap) (o : Nat) (n : Int) (u : V) (es : List TEdge) (ys : List V) (Hc : Heap) : Prop :=
  ∃ x y z : Int, ys = [.box [.int .i64 0, .nils], .box [.int .i64 n, u], .box [.int .i64 x, .int .i64 y, .int .i64 z]] ∧ Hx H o 3 (es.map enEdge) u Hc
set_option maxHeartbeats 4000000 in
theorem C_w_l03DrawGraph {o : Nat} {n k : Int} {H : Heap} {K : V → Heap → Prop} (hc : IsCur H o) (hn : 0 ≤ n ∧ n ≤ 100) (hk : 0 ≤ k ∧ k ≤ 1000)
    (h : ∀ (es : List TEdge) u H', es.length ≤ 60 → Hx H o 3 (es.map enEdge) u H' → K (.agg [.int .i64 n, u]) H') : ACalls P n_s_l03DrawGraph [.ptr o 0 0, .int .i64 n, .int .i64 k] H K := by
  apply W_s_l03DrawGraph
  unfold F_s_l03DrawGraph
  simp [stz_eq, putCells, fillZ]
  refine ⟨InvDgr H o n k, ⟨k.toNat, Shr.of ⟨0, _, [], by omega, rfl, by omega, by simp, ⟨H, St.grow hc (Abs.sub_refl _), Held.nil⟩⟩⟩, ?_⟩
  rintro m ys Hc ⟨i, u, es, hi, rfl, rfl, hlen, hu⟩
  have cu := (hx_rc hu (edge_row es)).cell
  have fin : Ret K (.agg [.int .i64 n, u]) Hc := Ret.of (h es u Hc hlen hu)
  simp [stz_eq, putCells, cu]
  rw [i64_in (n := n - 1) (by omega) (by omega), i64_in (n := (i : Int) + 1) (by omega) (by omega)]
  refine ⟨fun hlt => ⟨fun h1 => ?_, fun _ => fin⟩, fun _ => fin⟩
  have next : ∀ (es' : List TEdge) (u' : V) (H' : Heap), es'.length ≤ 60 → Hx H o 3 (es'.map enEdge) u' H' → ∃ n6, n6 < k.toNat - i ∧ Shr (InvDgr H o n k n6 [.box [.int .i64 0, .nils], .box [.int .i64 n, u'], .int .i64 ((i : Int) + 1)]) H' := fun es' u' H' g1 g2 =>
    ⟨k.toNat - (i + 1), by omega, Shr.of ⟨i + 1, u', es', by omega, by simp, rfl, g1, g2⟩⟩
  refine C_s_l01Below (hx_cur hu) fun a H3 a0 a1 _ s3 => ?_
  have hu3 := hx_step hu s3
  refine C_s_l01Below (hx_cur hu3) fun b H4 b0 b1 _ s4 => ?_
  have hu4 := hx_step hu3 s4
  refine C_s_l01Below (hx_cur hu4) fun c H5 c0 c1 _ s5 => ?_
  have hu5 := hx_step hu4 s5
  simp
  rw [i64_in (n := 1 + c) (by omega) (by omega)]
  refine C_pick [1, 1, 2, 2, 3, 5, 1 + c, 1000] rfl rfl rfl (by simp) (by simp) s5.1 fun x H6 _ s6 => ?_
  have hu6 := hx_step hu5 s6
  simp [fillZ, putCells, stz_eq]
  refine ⟨JDgr H o n u es, ?_, ?_⟩
  · refine ⟨fun _ => ?_, fun _ => Shr.of ⟨a, b, x, rfl, hu6⟩⟩
    refine C_s_l01Below (hx_cur hu6) fun d H7 _ _ _ s7 => ?_
    have hu7 := hx_step hu6 s7
    simp
    exact ⟨fun _ => Shr.of ⟨_, _, x, rfl, hu7⟩, fun _ => Shr.of ⟨a, b, x, rfl, hu7⟩⟩
  rintro ys Hd ⟨x, y, z, rfl, hd⟩
  have ed := (hx_rc hd (edge_row es)).len
  simp [stz_eq, putCells, cu, ed]
  refine ⟨fun _ => next _ _ _ hlen hd, fun _ => ⟨fun hl => ?_, fun _ => next _ _ _ hlen hd⟩⟩
  refine w_put (e := (x, y, z)) hd (by omega) fun es7 u7 H7 l7 hu7 c7 => ?_
  simp [stz_eq, putCells, c7]
  refine C_s_l01Below (hx_cur hu7) fun d H8 _ _ _ s8 => ?_
  have hu8 := hx_step hu7 s8
  simp
  refine ⟨fun _ => ?_, fun _ => next _ _ _ (by omega) hu8⟩
  refine C_s_l01Once (hx_cur hu8) fun q H9 s9 => ?_
  have hu9 := hx_step hu8 s9
  simp
  refine ⟨fun _ => ?_, fun _ => ?_⟩
  · refine C_s_l01Below (hx_cur hu9) fun w H10 _ _ _ s10 => ?_
    have hu10 := hx_step hu9 s10
    simp
    refine w_put (e := (y, x, IntKind.i64.wrap (1 + w))) hu10 (by omega) fun es8 u8 H11 l8 hu11 c8 => ?_
    simp [stz_eq, putCells, c8]
    exact next _ _ _ (by omega) hu11
  · refine w_put (e := (y, x, z)) hu9 (by omega) fun es8 u8 H11 l8 hu11 c8 => ?_
    simp [stz_eq, putCells, c8]
    exact next _ _ _ (by omega) hu11

end Go.Proofs.YtaippfedjjjpeaaGreat
