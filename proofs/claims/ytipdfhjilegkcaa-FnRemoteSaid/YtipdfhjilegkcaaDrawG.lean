/-
Contracts of the draws of graphs: what they yield is a graph of few edges.
-/
import Derived.Test.YtipdfhjilegkcaaCur
import Derived.Test.YtipdfhjilegkcaaGraphE
set_option linter.all false
namespace Go.Proofs.Ytipdfhjilegkcaa
open Go Go.Abs Go.Proofs

/-- Read where the cursor does not stand. -/
def Rc (H : Heap) (o sz : Nat) (v : V) (rows : List (List V)) : Prop := Rd (del H o) sz v rows
theorem Rc.rd {H : Heap} {o sz : Nat} {v : V} {rows : List (List V)} (h : Rc H o sz v rows) : Rd H sz v rows := Rd.mono h del_sub
theorem Rc.st {H H' : Heap} {o sz : Nat} {v : V} {rows : List (List V)} (h : Rc H o sz v rows) (hs : St H o H') : Rc H' o sz v rows := by
  obtain ⟨_, y, _, h2⟩ := hs
  have := del_mono (o := o) h2
  rw [del_upd] at this
  exact Rd.mono h this
theorem Rc.mono {H H' : Heap} {o sz : Nat} {v : V} {rows : List (List V)} (h : Rc H o sz v rows) (hs : Abs.sub H H') : Rc H' o sz v rows := Rd.mono h (del_mono hs)
theorem Rc.ro {H : Heap} {o sz : Nat} {rows : List (List V)} (h : ∀ r ∈ rows, r.length = sz) : Rc H o sz (.ro rows) rows := Rd.ro h
theorem Rc.nils {H : Heap} {o sz : Nat} : Rc H o sz .nils [] := Rd.nils
theorem held_rc {Hb H : Heap} {o sz : Nat} {rows : List (List V)} {v : V} (h : Held Hb sz rows v H) (hc : IsCur Hb o) (hr : ∀ r ∈ rows, r.length = sz) : Rc H o sz v rows := by
  rcases h with ⟨rfl, rfl, rfl⟩ | ⟨o', cap, h1, rfl, h2, rfl⟩
  · exact Rd.nils
  · have hne : o' ≠ o := by rintro rfl; exact hc.some h1
    refine Rd.own hr ?_
    unfold del
    rw [if_neg hne, upd_eq]
/-- One's own slice, and the cursor has moved since. -/
def Hx (Hs : Heap) (o sz : Nat) (rows : List (List V)) (v : V) (H : Heap) : Prop := ∃ Hb, St Hs o Hb ∧ Held Hb sz rows v H
theorem Hx.cur {Hs H : Heap} {o sz : Nat} {rows : List (List V)} {v : V} (h : Hx Hs o sz rows v H) : IsCur H o := by
  obtain ⟨Hb, h1, h2⟩ := h
  exact h1.1.mono h2.sub
theorem Hx.st {Hs H : Heap} {o sz : Nat} {rows : List (List V)} {v : V} (h : Hx Hs o sz rows v H) : St Hs o H := by
  obtain ⟨Hb, h1, h2⟩ := h
  exact h1.more h2.sub
theorem Hx.rc {Hs H : Heap} {o sz : Nat} {rows : List (List V)} {v : V} (h : Hx Hs o sz rows v H) (hr : ∀ r ∈ rows, r.length = sz) : Rc H o sz v rows := by
  obtain ⟨Hb, h1, h2⟩ := h
  exact held_rc h2 h1.1 hr
theorem Hx.grow {Hs H H' : Heap} {o sz : Nat} {rows : List (List V)} {v : V} (h : Hx Hs o sz rows v H) (hs : Abs.sub H H') : Hx Hs o sz rows v H' := by
  obtain ⟨Hb, h1, h2⟩ := h
  obtain ⟨Hb', g1, g2⟩ := h2.rise hs
  exact ⟨Hb', h1.more g1, g2⟩
theorem Hx.step {Hs H H' : Heap} {o sz : Nat} {rows : List (List V)} {v : V} (h : Hx Hs o sz rows v H) (hs : St H o H') : Hx Hs o sz rows v H' := by
  obtain ⟨Hb, h1, h2⟩ := h
  obtain ⟨hc, y, g1, g2⟩ := hs
  have h3 := h2.rebase y (o := o) h1.1.some
  have h4 : St Hs o (upd Hb o y) := h1.trans (St.of (g1.mono h2.sub) h1.1)
  exact Hx.grow ⟨_, h4, h3⟩ g2
theorem Hx.of {Hs H H' : Heap} {o sz : Nat} {rows : List (List V)} {v : V} (h : St Hs o H) (h' : Held H sz rows v H') : Hx Hs o sz rows v H' := ⟨H, h, h'⟩
theorem Hx.new {Hs H H' : Heap} {o sz : Nat} {rows : List (List V)} {v : V} (h : St Hs o H) (h' : Held H sz rows v H') : Hx Hs o sz rows v H' := ⟨H, h, h'⟩

/-! #### the reference's helpers over edges, weakly -/
def InvWp (e : TEdge) (es : List TEdge) (H : Heap) (m : Nat) (ys : List V) (Hc : Heap) : Prop :=
  ∃ (i : Nat) (d : Bool) (u : V) (out : List TEdge), i ≤ es.length ∧ ys = [.box (enEdge e), u, .bool d, .int .i64 (i : Nat)] ∧ m = es.length - i ∧ out.length ≤ i + (if d then 1 else 0) ∧ Held H 3 (out.map enEdge) u Hc
def JWp1 (H : Heap) (ys : List V) (Hc : Heap) : Prop := ∃ b, ys = [.bool b] ∧ Hc = H
def JWp2 (d : Bool) (i : Nat) (H : Heap) (ys : List V) (Hc : Heap) : Prop :=
  ∃ (u : V) (d' : Bool) (out : List TEdge), ys = [u, .bool d'] ∧ out.length ≤ i + (if d' then 1 else 0) ∧ Held H 3 (out.map enEdge) u Hc
set_option maxHeartbeats 2000000 in
theorem C_w_l03Put {e : TEdge} {es : List TEdge} {v : V} {H : Heap} {K : V → Heap → Prop} (hv : Rd H 3 v (es.map enEdge)) (hl : es.length ≤ 1000)
    (h : ∀ (es' : List TEdge) u H', es'.length ≤ es.length + 1 → Held H 3 (es'.map enEdge) u H' → K u H') : ACalls P n_s_l03Put [v, .agg (enEdge e)] H K := by
  apply W_s_l03Put
  unfold F_s_l03Put
  have hb0 : bsl 3 0 [V.int .i64 0, .int .i64 0, .int .i64 0] [] = some [] := rfl
  simp [hb0, bsl_one]
  intro o2 ho2
  refine ⟨InvWp e es H, ⟨es.length, Shr.of ⟨0, false, .slice o2 0 0 (some 0), [], by omega, rfl, by omega, by simp, Held.new ho2⟩⟩, ?_⟩
  rintro m ys Hc ⟨i, d, u, out, hi, rfl, rfl, hlen, hu⟩
  simp [hv.len]
  refine ⟨fun hlt => ?_, fun hge => ?_⟩
  · have hgd : (es.map enEdge).getD i [] = enEdge es[i] := by simp [hlt]
    refine (hv.mono hu.sub).idx (by omega) (by simpa using hlt) fun p hpp => ?_
    simp only [Int.toNat_natCast, hgd] at hpp
    rw [hpp.ld]
    simp [stz_eq, putCells]
    refine ⟨JWp2 d i H, ?_, ?_⟩
    · refine ⟨fun ys Hd => (∃ b, ys = [.bool b] ∧ (b = true → d = false)) ∧ Hd = Hc, ?_, ?_⟩
      · refine ⟨fun q => ⟨fun q1 => ?_, fun q1 => ⟨fun q2 => ?_, fun q2 => ?_⟩⟩, fun q => ?_⟩
        all_goals exact Shr.of ⟨⟨_, rfl, by simp_all⟩, rfl⟩
      · rintro ys Hd ⟨⟨b, rfl, hb⟩, rfl⟩
        simp [bsl_one]
        refine ⟨fun q => ?_, fun q => ?_⟩
        · intro o7 ho7
          have hd := hb q
          subst hd
          refine hu.append (sub_fresh ho7) (by simp) (by simp at hlen ⊢; omega) fun v' H' H'' ho' hs' => ?_
          refine ⟨H'', hs', v', true, out ++ [e], rfl, by simp at hlen ⊢; omega, by simpa using ho'⟩
        · exact Shr.of ⟨u, d, out, rfl, hlen, hu⟩
    · rintro ys Hd ⟨u2, d2, out2, rfl, hl2, hu2⟩
      simp [bsl_one]
      rw [i64_in (n := (i : Int) + 1) (by omega) (by omega)]
      have hl3 : out2.length ≤ i + 1 := by split at hl2 <;> omega
      have add : ∀ (o7 : Nat), Hd o7 = none → appendK (upd Hd o7 ⟨3, [enEdge es[i]]⟩) 3 24 u2 [enEdge es[i]] fun v47 H48 =>
          ∃ n6, n6 < es.length - i ∧ Shr (InvWp e es H n6 [.box (enEdge e), v47, .bool d2, .int .i64 ((i : Int) + 1)]) H48 := fun o7 ho7 => by
        refine hu2.append (sub_fresh ho7) (by simp) (by simp; omega) fun v' H' H'' ho' hs' => ?_
        exact ⟨es.length - (i + 1), by omega, H'', hs', i + 1, d2, v', out2 ++ [es[i]], by omega, by simp, rfl, by simp; omega, by simpa using ho'⟩
      refine ⟨fun _ => add, fun _ => ⟨fun _ => add, fun _ => ?_⟩⟩
      exact ⟨es.length - (i + 1), by omega, Shr.of ⟨i + 1, d2, u2, out2, by omega, by simp, rfl, by omega, hu2⟩⟩
  · have : i = es.length := by omega
    subst this
    refine ⟨fun q => ?_, fun q => ?_⟩
    · intro o7 ho7
      subst q
      refine hu.append (sub_fresh ho7) (by simp) (by simp at hlen ⊢; omega) fun v' H' H'' ho' hs' => ?_
      exact Ret.shr (h (out ++ [e]) _ _ (by simp at hlen ⊢; omega) (by simpa using ho')) rfl hs'
    · subst q
      exact Ret.of (h out _ _ (by simpa using hlen) hu)

def InvGc (r : List V) (n : Int) (es : List TEdge) (H : Heap) (m : Nat) (ys : List V) (Hc : Heap) : Prop :=
  ∃ (i : Nat) (u : V), i ≤ es.length ∧ ys = [.box r, .box [.int .i64 0, .nils], .box [.int .i64 n, u], .int .i64 (i : Nat)] ∧ m = es.length - i ∧ Held H 3 ((es.take i).map enEdge) u Hc
set_option maxHeartbeats 1000000 in
theorem C_g_l03Copy {n : Int} {v : V} {es : List TEdge} {H : Heap} {K : V → Heap → Prop} (hv : Rd H 3 v (es.map enEdge)) (hl : es.length ≤ 1048576) (h : ∀ u H', Held H 3 (es.map enEdge) u H' → K (vG n u) H') : ACalls P n_s_l03Copy [vG n v] H K := by
  have hc := hv.cell
  apply W_s_l03Copy
  unfold F_s_l03Copy
  simp [hc, stz_eq, putCells, fillZ]
  refine ⟨InvGc [.int .i64 n, v] n es H, ⟨es.length, Shr.of ⟨0, .nils, by omega, rfl, by omega, by simpa using Held.nil⟩⟩, ?_⟩
  rintro m ys Hc ⟨i, u, hi, rfl, rfl, hu⟩
  have cu := hu.cell
  simp [hc, hv.len]
  refine ⟨fun hlt => ?_, fun hge => ?_⟩
  · have hgd : (es.map enEdge).getD i [] = enEdge es[i] := by simp [hlt]
    refine (hv.mono hu.sub).idx (by omega) (by simpa using hlt) fun p hpp => ?_
    simp only [Int.toNat_natCast, hgd] at hpp
    rw [hpp.ld]
    simp [bsl_one]
    intro o7 ho7
    refine hu.append (sub_fresh ho7) (by simp) (by simp; omega) fun v' H' H'' ho' hs' => ?_
    have cv := ho'.cell
    simp [stz_eq, putCells, cv]
    rw [i64_in (n := (i : Int) + 1) (by omega) (by omega)]
    refine ⟨es.length - (i + 1), by omega, H'', hs', i + 1, v', by omega, by simp, rfl, ?_⟩
    rw [List.take_succ_eq_append_getElem hlt, List.map_append]
    simpa using ho'
  · have : i = es.length := by omega
    subst this
    rw [List.take_length] at hu
    simp [cu, stz_eq, putCells]
    exact Ret.of (h _ _ hu)

def InvWw (r : List V) (n : Int) (es : List TEdge) (H : Heap) (m : Nat) (ys : List V) (Hc : Heap) : Prop :=
  ∃ (i : Nat) (u : V) (out : List TEdge), i ≤ es.length ∧ ys = [.box r, .box [.int .i64 0, .nils], .box [.int .i64 n, u], .int .i64 (i : Nat)] ∧ m = es.length - i ∧ out.length ≤ i ∧ Held H 3 (out.map enEdge) u Hc
set_option maxHeartbeats 2000000 in
theorem C_w_Without {n x y : Int} {es : List TEdge} {v : V} {H : Heap} {K : V → Heap → Prop} (hv : Rd H 3 v (es.map enEdge)) (hl : es.length ≤ 1000)
    (h : ∀ (es' : List TEdge) u b H', es'.length ≤ es.length → Held H 3 (es'.map enEdge) u H' → K (.tup [vG n u, .bool b]) H') : ACalls P n_s_Without [vG n v, .int .i64 x, .int .i64 y] H K := by
  have hc := hv.cell
  apply W_s_Without
  unfold F_s_Without
  simp [hc, stz_eq, putCells, fillZ]
  refine ⟨InvWw [.int .i64 n, v] n es H, ⟨es.length, Shr.of ⟨0, .nils, [], by omega, rfl, by omega, by simp, Held.nil⟩⟩, ?_⟩
  rintro m ys Hc ⟨i, u, out, hi, rfl, rfl, hlen, hu⟩
  have cu := hu.cell
  simp [hc, hv.len]
  refine ⟨fun hlt => ?_, fun hge => ?_⟩
  · have hgd : (es.map enEdge).getD i [] = enEdge es[i] := by simp [hlt]
    refine (hv.mono hu.sub).idx (by omega) (by simpa using hlt) fun p hpp => ?_
    simp only [Int.toNat_natCast, hgd] at hpp
    rw [hpp.ld]
    simp [stz_eq, putCells]
    refine ⟨JWp1 Hc, ?_, ?_⟩
    · refine ⟨fun q1 => ⟨fun q2 => ⟨fun q3 => ?_, fun q3 => ?_⟩, fun q2 => ?_⟩, fun q1 => ⟨fun q3 => ?_, fun q3 => ?_⟩⟩
      all_goals exact Shr.of ⟨_, rfl, rfl⟩
    · rintro ys Hd ⟨b, rfl, rfl⟩
      simp [cu, bsl_one]
      rw [i64_in (n := (i : Int) + 1) (by omega) (by omega)]
      refine ⟨fun q => ?_, fun q => ?_⟩
      · intro o7 ho7
        refine hu.append (sub_fresh ho7) (by simp) (by simp; omega) fun v' H' H'' ho' hs' => ?_
        have cv := ho'.cell
        simp [stz_eq, putCells, cv]
        exact ⟨es.length - (i + 1), by omega, H'', hs', i + 1, v', out ++ [es[i]], by omega, by simp, rfl, by simp; omega, by simpa using ho'⟩
      · exact ⟨es.length - (i + 1), by omega, Shr.of ⟨i + 1, u, out, by omega, by simp, rfl, by omega, hu⟩⟩
  · have : i = es.length := by omega
    subst this
    refine C_s_GraphOk (hv.mono hu.sub) ?_
    have cp : ACalls P n_s_l03Copy [vG n v] Hc fun v54 H55 => bnd (stz 2 [V.int .i64 0, .nils] 0 v54) fun c => bnd (partOf true 2 c 0) fun t => Ret K (.tup [t, .bool false]) H55 := by
      refine C_g_l03Copy (hv.mono hu.sub) (by omega) fun u2 H2 h2 => ?_
      have c2 := h2.cell
      simp [stz_eq, putCells, c2]
      obtain ⟨Hz, z1, z2⟩ := h2.shrink hu.sub
      exact Ret.shr (h es _ _ _ (by omega) z1) rfl z2
    simp [cu, (hu.rd enEdge_len).len, stz_eq, putCells] at cp ⊢
    refine ⟨fun _ => cp, fun _ => ⟨fun _ => cp, fun _ => Ret.of (h out _ _ _ hlen hu)⟩⟩

theorem C_w_l03DrawNode {o : Nat} {n : Int} {v : V} {H : Heap} {K : V → Heap → Prop} (hc : IsCur H o) (hcell : cellsOf v = [v] ∧ cellOk v = true ∧ notAny v = true) (h : ∀ x Hd, St H o Hd → K (.int .i64 x) Hd) : ACalls P n_s_l03DrawNode [.ptr o 0 0, vG n v] H K := by
  apply W_s_l03DrawNode
  unfold F_s_l03DrawNode
  simp [hcell]
  refine ⟨fun _ => ?_, fun _ => ?_⟩
  · refine C_s_l01Once hc fun q H1 s1 => ?_
    simp
    refine ⟨fun _ => ?_, fun _ => ?_⟩
    · refine C_s_l01Below s1.1 fun x H2 _ _ _ s2 => ?_
      exact Ret.of (h _ _ (s1.trans s2))
    · refine C_pick [-1, n, 0] rfl rfl rfl (by simp) (by simp) s1.1 fun x H5 _ s5 => ?_
      exact Ret.of (h _ _ (s1.trans s5))
  · refine C_pick [-1, n, 0] rfl rfl rfl (by simp) (by simp) hc fun x H5 _ s5 => ?_
    exact Ret.of (h _ _ s5)

set_option maxHeartbeats 2000000 in
theorem C_w_l03Bend {o : Nat} {n : Int} {v : V} {es : List TEdge} {Hs H : Heap} {K : V → Heap → Prop} (hu : Hx Hs o 3 (es.map enEdge) v H) (hl : es.length ≤ 1000)
    (h : ∀ n' (es' : List TEdge) u H', es'.length ≤ es.length + 1 → Hx Hs o 3 (es'.map enEdge) u H' → K (vG n' u) H') : ACalls P n_s_l03Bend [.ptr o 0 0, vG n v] H K := by
  have hcell := (hu.rc enEdge_len).rd.cell
  apply W_s_l03Bend
  unfold F_s_l03Bend
  simp [hcell]
  refine C_s_l01Below hu.cur fun k H1 _ _ _ s1 => ?_
  have hu1 := hu.step s1
  have keep : ∀ (H2 : Heap), Hx Hs o 3 (es.map enEdge) v H2 → ∀ n', bnd (stz 2 [V.int .i64 0, .nils] 0 (vG n' v)) fun c => bnd (partOf true 2 c 0) fun t => Ret K t H2 := fun H2 h2 n' => by
    simp [stz_eq, putCells, hcell]
    exact Ret.of (h n' es v H2 (by omega) h2)
  have hlen := (hu.rc enEdge_len).rd.len
  simp [hlen, stz_eq, putCells, hcell] at keep ⊢
  refine ⟨fun _ => ?_, fun _ => ⟨fun _ => ⟨fun hpos => ?_, fun _ => keep _ hu1 n⟩, fun _ => ⟨fun _ => ⟨fun hpos => ?_, fun _ => keep _ hu1 n⟩, fun _ => ⟨fun _ => ⟨fun hpos => ?_, fun _ => keep _ hu1 n⟩, fun _ => keep _ hu1 n⟩⟩⟩⟩
  · refine C_pick [0, 1, 11, IntKind.i64.wrap (n - 1)] rfl rfl rfl (by simp) (by simp) s1.1 fun x H5 _ s5 => ?_
    simp [stz_eq, putCells, hcell]
    exact keep _ (hu1.step s5) x
  · refine C_s_l01Below s1.1 fun x H2 x0 x1 _ s2 => ?_
    refine C_pick [0, 1000, 1001] rfl rfl rfl (by simp) (by simp) s2.1 fun y H5 _ s5 => ?_
    have hu5 := (hu1.step s2).step s5
    obtain ⟨Hb, g1, g2⟩ := hu5
    have hx1 := x1 (by omega)
    refine g2.pt (Abs.sub_refl _) x0 (by simpa using hx1) fun p hp => ?_
    refine hp.fld fun p1 hp1 => ?_
    have hi : x.toNat < es.length := by omega
    refine hp1.st (row' := enEdge (es[x.toNat].1, es[x.toNat].2.1, y)) (by simp [hi, stz_eq, putCells]) fun H6 H7 h6 hs7 => ?_
    -- 
    have e : (es.map enEdge).set x.toNat (enEdge (es[x.toNat].1, es[x.toNat].2.1, y)) = (es.set x.toNat (es[x.toNat].1, es[x.toNat].2.1, y)).map enEdge := by rw [List.map_set]
    rw [e] at h6
    exact Ret.shr (h n _ v H7 (by simp) ⟨Hb, g1, h6⟩) rfl hs7
  · obtain ⟨Hb, g1, g2⟩ := hu1
    have hi : 0 < es.length := by omega
    refine (g2.rd enEdge_len).idx (by omega) (by simp; omega) fun p hp => ?_
    rw [hp.ld]
    simp [hi, bsl_one]
    intro o7 ho7
    refine g2.append (sub_fresh ho7) (by simp) (by simp; omega) fun v' H' H'' ho' hs' => ?_
    have cv := ho'.cell
    simp [stz_eq, putCells, cv]
    exact Ret.shr (h n (es ++ [es[0]]) v' H'' (by simp) ⟨Hb, g1, by simpa using ho'⟩) rfl hs'
  · refine C_s_l01Below s1.1 fun x H2 x0 x1 _ s2 => ?_
    have hu5 := hu1.step s2
    obtain ⟨Hb, g1, g2⟩ := hu5
    have hx1 := x1 (by omega)
    have hi : x.toNat < es.length := by omega
    refine (g2.rd enEdge_len).idx x0 (by simpa using hx1) fun p hp => ?_
    refine hp.fld fun p1 hp1 => ?_
    rw [hp1.ld]
    simp [hi]
    refine g2.pt (Abs.sub_refl _) x0 (by simpa using hx1) fun p hp => ?_
    refine hp.fld fun p1 hp1 => ?_
    refine hp1.st (row' := enEdge (es[x.toNat].1, es[x.toNat].1, es[x.toNat].2.2)) (by simp [hi, stz_eq, putCells]) fun H6 H7 h6 hs7 => ?_
    -- 
    have e : (es.map enEdge).set x.toNat (enEdge (es[x.toNat].1, es[x.toNat].1, es[x.toNat].2.2)) = (es.set x.toNat (es[x.toNat].1, es[x.toNat].1, es[x.toNat].2.2)).map enEdge := by rw [List.map_set]
    rw [e] at h6
    exact Ret.shr (h n _ v H7 (by simp) ⟨Hb, g1, h6⟩) rfl hs7

end Go.Proofs.Ytipdfhjilegkcaa
