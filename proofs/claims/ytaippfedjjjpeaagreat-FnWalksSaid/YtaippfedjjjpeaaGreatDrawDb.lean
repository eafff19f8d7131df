/-
Contracts of the draws of databases.
-/
import Derived.Test.YtaippfedjjjpeaaGreatDrwM
import Derived.Test.YtaippfedjjjpeaaGreatInsM
import Derived.Test.YtaippfedjjjpeaaGreatSumC
set_option linter.all false
namespace Go.Proofs.YtaippfedjjjpeaaGreat
open Go Go.Abs Go.Proofs

/-- Few records, each of few words. -/
def fits (n : Nat) (xs : List TLsa) : Prop := xs.length ≤ n ∧ ∀ a ∈ xs, a.links.length ≤ 80 ∧ a.stubs.length ≤ 80
theorem fits_sz {n : Nat} {xs : List TLsa} (h : fits n xs) (hn : n ≤ 1000) : bDb xs := by
  obtain ⟨h1, h2⟩ := h
  have : ∀ ys : List TLsa, (∀ a ∈ ys, a.links.length ≤ 80 ∧ a.stubs.length ≤ 80) → sumF szl ys ≤ 160 * ys.length := by
    intro ys
    induction ys with
    | nil => intro _; simp [sumF]
    | cons y ys ih =>
      intro h
      have i1 := ih fun a ha => h a (List.mem_cons_of_mem _ ha)
      have i2 := h y (by simp)
      have e : sumF szl (y :: ys) = szl y + sumF szl ys := by unfold sumF; simp
      rw [e, List.length_cons]
      unfold szl at i1 ⊢
      omega
  have := this xs h2
  unfold bDb
  omega
theorem fits_app {n : Nat} {xs : List TLsa} {a : TLsa} (h : fits n xs) (ha : a.links.length ≤ 80 ∧ a.stubs.length ≤ 80) : fits (n + 1) (xs ++ [a]) := by
  refine ⟨by simp; exact h.1, fun b hb => ?_⟩
  rcases List.mem_append.1 hb with q | q
  · exact h.2 b q
  · have : b = a := by simpa using q
    subst this; exact ha
theorem fits_set {n : Nat} {xs : List TLsa} {a : TLsa} {i : Nat} (h : fits n xs) (ha : a.links.length ≤ 80 ∧ a.stubs.length ≤ 80) : fits n (xs.set i a) := by
  refine ⟨by simpa using h.1, fun b hb => ?_⟩
  rcases List.mem_or_eq_of_mem_set hb with q | q
  · exact h.2 b q
  · subst q; exact ha
theorem fits_in {n : Nat} {xs : List TLsa} (h : fits n xs) {i : Nat} (hi : i < xs.length) : xs[i].links.length ≤ 80 ∧ xs[i].stubs.length ≤ 80 := h.2 _ (List.getElem_mem hi)
theorem dq_one {b : Bool} {xs : List TLsa} {us : List V} {Hs H : Heap} {o : Nat} (h : Dq (dbT b) Hs o xs us H) : ∃ u, us = [u] ∧ (cellsOf u = [u] ∧ cellOk u = true ∧ notAny u = true) := by
  obtain ⟨Hb, h1, h2⟩ := h
  obtain ⟨u, rfl⟩ := one_cell h2
  exact ⟨u, rfl, dpS_cell h2⟩
def InvDd (H : Heap) (o : Nat) (n : Int) (g : V) (es : List TEdge) (m : Nat) (ys : List V) (Hc : Heap) : Prop :=
  ∃ (i : Nat) (u : V) (xs : List TLsa), i ≤ n.toNat ∧ ys = [.box [.nils], .box [.int .i64 n, g], .box [u], .int .i64 (i : Nat)] ∧ m = n.toNat - i ∧ xs.length ≤ i ∧ (∀ a ∈ xs, a.links.length ≤ 60 ∧ a.stubs.length ≤ 10) ∧
    Dq (dbT false) H o xs [u] Hc
def InvDe (Ha : Heap) (o : Nat) (n : Int) (g u : V) (es : List TEdge) (m : Nat) (ys : List V) (Hc : Heap) : Prop :=
  ∃ (j : Nat) (a : TLsa) (l s : V), j ≤ es.length ∧ ys = [.box [.nils], .box [.int .i64 n, g], .box [u], .box (lsaRow a l s), .int .i64 (j : Nat)] ∧ m = es.length - j ∧ a.links.length ≤ j ∧ a.stubs.length ≤ 10 ∧
    Dq (lsaT false) Ha o a (lsaRow a l s) Hc
set_option maxHeartbeats 4000000 in
theorem C_w_l06DrawDb {o : Nat} {n : Int} {H : Heap} {K : V → Heap → Prop} (hc : IsCur H o) (hn : 1 ≤ n ∧ n ≤ 10)
    (h : ∀ (xs : List TLsa) u H', xs.length ≤ 10 → (∀ a ∈ xs, a.links.length ≤ 60 ∧ a.stubs.length ≤ 10) → Dq (dbT false) H o xs [u] H' → K (.agg [u]) H') : ACalls P n_s_l06DrawDb [.ptr o 0 0, .int .i64 n] H K := by
  apply W_s_l06DrawDb
  unfold F_s_l06DrawDb
  simp [stz_eq, putCells, fillZ]
  rw [i64_in (n := 2 * n) (by omega) (by omega)]
  refine C_w_l03DrawGraph hc (by omega) (by omega) fun es g H1 hes hg => ?_
  have cg := (hx_rc hg (edge_row es)).cell
  simp [stz_eq, putCells, cg]
  have rg1 := hx_rc hg (edge_row es)
  refine ⟨InvDd H1 o n g es, ⟨n.toNat, Shr.of ⟨0, .nils, [], by omega, rfl, by omega, by simp, by simp, ⟨H1, St.grow (hx_cur hg) (Abs.sub_refl _), dpS_nil⟩⟩⟩, ?_⟩
  rintro m ys Hc ⟨i, u, xs, hi, rfl, rfl, hlx, hfx, hu⟩
  have rg : Rd (Abs.del Hc o) 3 g (es.map enEdge) := rg1.mono (St.del hu.st)
  obtain ⟨u', eu, cu⟩ := dq_one hu
  obtain rfl : u = u' := by simpa using eu
  simp [stz_eq, putCells, cu, cg]
  rw [i64_in (n := (i : Int) + 1) (by omega) (by omega)]
  refine ⟨fun hlt => ?_, fun hge => Ret.of (h xs u Hc (by omega) hfx (Dq.from (hx_st hg) hu))⟩
  refine C_s_l01Below hu.cur fun k H2 k0 k1 _ s2 => ?_
  simp
  refine C_s_l01Below s2.1 fun c H3 _ _ _ s3 => ?_
  have t3 := s2.trans s3
  refine C_pick [0, 0, c] rfl rfl rfl (by simp) (by simp) s3.1 fun x H4 _ s4 => ?_
  have t4 := t3.trans s4
  refine C_s_l01Below s4.1 fun q H5 q0 q1 _ s5 => ?_
  have t5 := t4.trans s5
  refine C_w_l05DrawStubs s5.1 (by omega) fun ss w H6 hss hw => ?_
  have cw := (hx_rc hw (sz := 3) (by intro r hr; obtain ⟨e, _, rfl⟩ := List.mem_map.1 hr; rfl)).cell
  simp [fillZ, stz_eq, putCells, cw]
  have t6 := t5.trans (hx_st hw)
  have hx0 : Hx H5 o 2 (([] : List TLink).map enLink) .nils H5 := ⟨H5, St.grow s5.1 (Abs.sub_refl _), Held.nil⟩
  have rg5 : Rd (Abs.del H5 o) 3 g (es.map enEdge) := rg.mono (St.del t5)
  have hd0 : Dq (lsaT false) H5 o ⟨(i : Int), IntKind.i64.wrap (1 + k), x, [], ss⟩ (lsaRow ⟨(i : Int), IntKind.i64.wrap (1 + k), x, [], ss⟩ .nils w) H6 := dq_lsa hx0 hw
  refine ⟨InvDe H5 o n g u es, ⟨es.length, Shr.of ⟨0, _, .nils, w, by omega, rfl, by omega, by simp, hss, hd0⟩⟩, ?_⟩
  rintro m ys Hd ⟨j, a, l, s, hj, rfl, rfl, hal, has, hd⟩
  obtain ⟨l', s', e', cl, cs⟩ := dq_cell hd
  simp only [lsaRow, List.cons.injEq, and_true, true_and] at e'
  obtain ⟨rfl, rfl⟩ := e'
  have rgd' : Rd Hd 3 g (es.map enEdge) := (rg5.mono (St.del hd.st)).mono del_sub
  simp [rgd'.len, cl, cs]
  rw [i64_in (n := (j : Int) + 1) (by omega) (by omega)]
  refine ⟨fun hlt2 => ?_, fun hge2 => ?_⟩
  · have hgd : (es.map enEdge).getD j [] = enEdge es[j] := by simp [hlt2]
    refine rgd'.idx (by omega) (by simpa using hlt2) fun p hp => hp.fld fun p1 hp1 => ?_
    simp only [Int.toNat_natCast, hgd] at hp1
    rw [hp1.ld]
    simp
    refine ⟨fun _ => ?_, fun _ => ?_⟩
    · refine rgd'.idx (by omega) (by simpa using hlt2) fun p hp => hp.fld fun p1 hp1 => ?_
      simp only [Int.toNat_natCast, hgd] at hp1
      rw [hp1.ld]
      simp
      refine rgd'.idx (by omega) (by simpa using hlt2) fun p hp => hp.fld fun p1 hp1 => ?_
      simp only [Int.toNat_natCast, hgd] at hp1
      rw [hp1.ld]
      simp [bsl_one, fillZ, putCells]
      intro o7 ho7
      refine dq_links (x := (es[j].2.1, es[j].2.2)) hd (sub_fresh ho7) (by omega) fun l' H' hd' c' => ?_
      simp [stz_eq, putCells, c']
      exact ⟨es.length - (j + 1), by omega, Shr.of ⟨j + 1, { a with links := a.links ++ [(es[j].2.1, es[j].2.2)] }, l', s, by omega, rfl, rfl, by simp; omega, has, hd'⟩⟩
    · exact ⟨es.length - (j + 1), by omega, Shr.of ⟨j + 1, a, l, s, by omega, by simp, rfl, by omega, has, hd⟩⟩
  · refine C_s_l01Below hd.cur fun z H7 _ _ _ s7 => ?_
    have hd7 := hd.step s7
    simp
    refine ⟨fun _ => ?_, fun _ => ?_⟩
    · simp [bsl_one, cl, cs]
      intro o8 ho8
      obtain ⟨Hb, g1, g2⟩ := hd7
      obtain ⟨Hb2, f1, f2⟩ := hu.step (t5.trans g1)
      refine dpS_app (T := lsaT false) f2 g2 (sub_fresh ho8) (by omega) fun v' H' H'' ho' hs' => ?_
      have cv := dpS_cell ho'
      simp [stz_eq, putCells, cv]
      refine ⟨n.toNat - (i + 1), by omega, H'', hs', i + 1, v', xs ++ [a], by omega, by simp, rfl, by simp; omega, fun b hb => ?_, ⟨Hb2, f1, ho'⟩⟩
      rcases List.mem_append.1 hb with q | q
      · exact hfx b q
      · have : b = a := by simpa using q
        subst this; exact ⟨by omega, has⟩
    · refine ⟨n.toNat - (i + 1), by omega, Shr.of ⟨i + 1, u, xs, by omega, by simp, rfl, by omega, hfx, ?_⟩⟩
      exact hu.step (t5.trans hd7.st)
def fitsQ (H : Heap) (n : Nat) (xs : List TLsa) (o : Nat) (u : V) (H' : Heap) : Prop := IsCur H' o ∧ Abs.sub H (Abs.del H' o) ∧ fits n xs ∧ Rq (dbT false) H' o xs [u] ∧ (cellsOf u = [u] ∧ cellOk u = true ∧ notAny u = true)
set_option maxHeartbeats 4000000 in
theorem C_w_l06Draw {v : V} {bs : List (List V)} {H : Heap} {K : V → Heap → Prop} (hv : Rd H 1 v bs) (hb : Bs bs) (hl : bs.length ≤ 9223372036854775807) (hcell : cellsOf v = [v] ∧ cellOk v = true ∧ notAny v = true)
    (h : ∀ o xs u H', fitsQ H 10 xs o u H' → K (.tup [.ptr o 0 0, .agg [u]]) H') : ACalls P n_s_l06Draw [v] H K := by
  apply W_s_l06Draw
  unfold F_s_l06Draw
  refine C_s_l01New hv hb hl hcell fun o H1 ho hc1 hs1 => ?_
  have low : ∀ {H'}, St H1 o H' → Abs.sub H (Abs.del H' o) := fun {H'} hst => sub_trans (fun i x hi => by
    unfold Abs.del
    rw [if_neg (by rintro rfl; rw [ho] at hi; cases hi)]
    exact hs1 _ _ hi) (St.del hst)
  refine C_s_l01Size (hv.mono hs1) (by omega) hl fun sz hz0 hz1 => ?_
  refine C_s_l01Below hc1 fun k H2 k0 k1 k2 s2 => ?_
  have hk : k ≤ 9 := by by_cases e : 0 < sz <;> omega
  simp
  rw [i64_in (n := 1 + k) (by omega) (by omega)]
  refine C_w_l06DrawDb s2.1 (by omega) fun xs u H3 hl3 hf3 hd3 => ?_
  have hd := Dq.from s2 hd3
  obtain ⟨u', eu, cu⟩ := dq_one hd
  obtain rfl : u = u' := by simpa using eu
  have ft : fits 10 xs := ⟨hl3, fun a ha => by have := hf3 a ha; omega⟩
  simp [stz_eq, putCells, cu]
  refine C_s_l01Once hd.cur fun q H4 s4 => ?_
  have hd4 := hd.step s4
  have ln := rdS_len hd4.rq.rd
  simp [ln]
  have fin : ∀ xs' H', fits 10 xs' → Dq (dbT false) H1 o xs' [u] H' → K (.tup [.ptr o 0 0, .agg [u]]) H' := fun xs' H' g1 g2 => h o xs' u H' ⟨g2.cur, low g2.st, g1, g2.rq, cu⟩
  refine ⟨fun _ => ⟨fun hpos => ?_, fun _ => ⟨⟨noHeap, noHeap_sub _⟩, Ret.of (fin xs H4 ft hd4)⟩⟩, fun _ => ⟨⟨noHeap, noHeap_sub _⟩, Ret.of (fin xs H4 ft hd4)⟩⟩
  refine C_s_l01Below hd4.cur fun x H5 x0 x1 _ s5 => ?_
  have hd5 := hd4.step s5
  have hx : x < xs.length := x1 (by omega)
  have hxn : x.toNat < xs.length := by omega
  skip
  refine rdS_idx hd5.rq.rd (by omega) hxn fun p row hp hrw => ?_
  have hrw' := hrw
  obtain ⟨l2, s2', rfl, _, _⟩ := hrw'
  rw [hp.ld]
  simp
  have f1 := hf3 _ (List.getElem_mem hxn)
  refine C_w_l05Bend hd5.cur hrw (by omega) fun a' us' H6 hl6 hd6 => ?_
  obtain ⟨Hb, g1, g2⟩ := hd6
  obtain ⟨Hb2, k1, k2⟩ := hd5.step g1
  refine dpS_set (T := lsaT false) k2 g2 (Abs.sub_refl _) (by omega) hxn fun p hst => ?_
  obtain ⟨l', s', Hm, rfl, w1, w2⟩ := lsa_dp g2
  have c1 := w1.cell
  have c2 := w2.cell
  refine hst _ _ (fun row hrow => by simp [stz, c1, c2, hrow, lsaT, putCells]) fun H' H'' hd' hs' => ?_
  refine ⟨⟨noHeap, noHeap_sub _⟩, ?_⟩
  skip
  exact Ret.shr (fin _ H'' (fits_set ft (by omega)) ⟨Hb2, k1, hd'⟩) rfl hs'

end Go.Proofs.YtaippfedjjjpeaaGreat
