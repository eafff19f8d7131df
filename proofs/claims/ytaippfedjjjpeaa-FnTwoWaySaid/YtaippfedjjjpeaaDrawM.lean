/-
Contracts of the draws of graphs beside advertisements.
-/
import Derived.Test.YtaippfedjjjpeaaDrawL
import Derived.Test.YtaippfedjjjpeaaGraphA
set_option linter.all false
namespace Go.Proofs.Ytaippfedjjjpeaa
open Go Go.Abs Go.Proofs

def InvWp (e : TEdge) (es : List TEdge) (H : Heap) (m : Nat) (ys : List V) (Hc : Heap) : Prop :=
  ∃ (i : Nat) (d : Bool) (u : V) (out : List TEdge), i ≤ es.length ∧ ys = [.box (enEdge e), u, .bool d, .int .i64 (i : Nat)] ∧ m = es.length - i ∧ out.length ≤ i + (if d then 1 else 0) ∧ Held H 3 (out.map enEdge) u Hc
def JWp1 (H : Heap) (ys : List V) (Hc : Heap) : Prop := ∃ b, ys = [.bool b] ∧ Hc = H
def JWp2 (d : Bool) (i : Nat) (H : Heap) (ys : List V) (Hc : Heap) : Prop :=
  ∃ (u : V) (d' : Bool) (out : List TEdge), ys = [u, .bool d'] ∧ out.length ≤ i + (if d' then 1 else 0) ∧ Held H 3 (out.map enEdge) u Hc
set_option maxHeartbeats 2000000 in
theorem C_w_l03Put {e : TEdge} {es : List TEdge} {v : V} {H : Heap} {K : V → Heap → Prop} (hv : Rd H 3 v (es.map enEdge)) (hl : es.length ≤ 1000)
    (h : ∀ (es' : List TEdge) u H', es'.length ≤ es.length + 1 → Held H 3 (es'.map enEdge) u H' → K u H') : ACalls P n_s_l03Put [v, .agg (enEdge e)] H K := by
  apply W_s_l03Put
  unfold F_s_l03Put
  have hb0 : bsl 3 0 [V.int .i64 0, .int .i64 0, .int .i64 0] [] = some [] := rfl
  simp [hb0, bsl_one]
  intro o2 ho2
  refine ⟨InvWp e es H, ⟨es.length, Shr.of ⟨0, false, .slice o2 0 0 (some 0), [], by omega, rfl, by omega, by simp, Held.new ho2⟩⟩, ?_⟩
  rintro m ys Hc ⟨i, d, u, out, hi, rfl, rfl, hlen, hu⟩
  simp [hv.len]
  refine ⟨fun hlt => ?_, fun hge => ?_⟩
  · have hgd : (es.map enEdge).getD i [] = enEdge es[i] := by simp [hlt]
    refine (hv.mono hu.sub).idx (by omega) (by simpa using hlt) fun p hpp => ?_
    simp only [Int.toNat_natCast, hgd] at hpp
    rw [hpp.ld]
    simp [stz_eq, putCells]
    refine ⟨JWp2 d i H, ?_, ?_⟩
    · refine ⟨fun ys Hd => (∃ b, ys = [.bool b] ∧ (b = true → d = false)) ∧ Hd = Hc, ?_, ?_⟩
      · refine ⟨fun q => ⟨fun q1 => ?_, fun q1 => ⟨fun q2 => ?_, fun q2 => ?_⟩⟩, fun q => ?_⟩
        all_goals exact Shr.of ⟨⟨_, rfl, by simp_all⟩, rfl⟩
      · rintro ys Hd ⟨⟨b, rfl, hb⟩, rfl⟩
        simp [bsl_one]
        refine ⟨fun q => ?_, fun q => ?_⟩
        · intro o7 ho7
          have hd := hb q
          subst hd
          refine hu.append (sub_fresh ho7) (by simp) (by simp at hlen ⊢; omega) fun v' H' H'' ho' hs' => ?_
          refine ⟨H'', hs', v', true, out ++ [e], rfl, by simp at hlen ⊢; omega, by simpa using ho'⟩
        · exact Shr.of ⟨u, d, out, rfl, hlen, hu⟩
    · rintro ys Hd ⟨u2, d2, out2, rfl, hl2, hu2⟩
      simp [bsl_one]
      rw [i64_in (n := (i : Int) + 1) (by omega) (by omega)]
      have hl3 : out2.length ≤ i + 1 := by split at hl2 <;> omega
      have add : ∀ (o7 : Nat), Hd o7 = none → appendK (upd Hd o7 ⟨3, [enEdge es[i]]⟩) 3 24 u2 [enEdge es[i]] fun v47 H48 =>
          ∃ n6, n6 < es.length - i ∧ Shr (InvWp e es H n6 [.box (enEdge e), v47, .bool d2, .int .i64 ((i : Int) + 1)]) H48 := fun o7 ho7 => by
        refine hu2.append (sub_fresh ho7) (by simp) (by simp; omega) fun v' H' H'' ho' hs' => ?_
        exact ⟨es.length - (i + 1), by omega, H'', hs', i + 1, d2, v', out2 ++ [es[i]], by omega, by simp, rfl, by simp; omega, by simpa using ho'⟩
      refine ⟨fun _ => add, fun _ => ⟨fun _ => add, fun _ => ?_⟩⟩
      exact ⟨es.length - (i + 1), by omega, Shr.of ⟨i + 1, d2, u2, out2, by omega, by simp, rfl, by omega, hu2⟩⟩
  · have : i = es.length := by omega
    subst this
    refine ⟨fun q => ?_, fun q => ?_⟩
    · intro o7 ho7
      subst q
      refine hu.append (sub_fresh ho7) (by simp) (by simp at hlen ⊢; omega) fun v' H' H'' ho' hs' => ?_
      exact Ret.shr (h (out ++ [e]) _ _ (by simp at hlen ⊢; omega) (by simpa using ho')) rfl hs'
    · subst q
      exact Ret.of (h out _ _ (by simpa using hlen) hu)


theorem edge_row (es : List TEdge) : ∀ r ∈ es.map enEdge, r.length = 3 := by
  intro r hr
  obtain ⟨e, _, rfl⟩ := List.mem_map.1 hr
  rfl
theorem w_put {o : Nat} {e : TEdge} {es : List TEdge} {v : V} {Hs H : Heap} {K : V → Heap → Prop} (hu : Hx Hs o 3 (es.map enEdge) v H) (hl : es.length ≤ 1000)
    (h : ∀ (es' : List TEdge) u H', es'.length ≤ es.length + 1 → Hx Hs o 3 (es'.map enEdge) u H' → (cellsOf u = [u] ∧ cellOk u = true ∧ notAny u = true) → K u H') : ACalls P n_s_l03Put [v, .agg (enEdge e)] H K :=
  C_w_l03Put (Rd.mono (hx_rc hu (edge_row es)) del_sub) hl fun es' u H' h1 h2 => h es' u H' h1 ⟨H, hx_st hu, h2⟩ h2.cell
def InvDgr (H : Heap) (o : Nat) (n k : Int) (m : Nat) (ys : List V) (Hc : Heap) : Prop :=
  ∃ (i : Nat) (u : V) (es : List TEdge), i ≤ k.toNat ∧ ys = [.box [.int .i64 0, .nils], .box [.int .i64 n, u], .int .i64 (i : Nat)] ∧ m = k.toNat - i ∧ es.length ≤ 60 ∧ Hx H o 3 (es.map enEdge) u Hc
def JDgr (H : Heap) (o : Nat) (n : Int) (u : V) (es : List TEdge) (ys : List V) (Hc : Heap) : Prop :=
  ∃ x y z : Int, ys = [.box [.int .i64 0, .nils], .box [.int .i64 n, u], .box [.int .i64 x, .int .i64 y, .int .i64 z]] ∧ Hx H o 3 (es.map enEdge) u Hc
set_option maxHeartbeats 4000000 in
theorem C_w_l03DrawGraph {o : Nat} {n k : Int} {H : Heap} {K : V → Heap → Prop} (hc : IsCur H o) (hn : 0 ≤ n ∧ n ≤ 100) (hk : 0 ≤ k ∧ k ≤ 1000)
    (h : ∀ (es : List TEdge) u H', es.length ≤ 60 → Hx H o 3 (es.map enEdge) u H' → K (.agg [.int .i64 n, u]) H') : ACalls P n_s_l03DrawGraph [.ptr o 0 0, .int .i64 n, .int .i64 k] H K := by
  apply W_s_l03DrawGraph
  unfold F_s_l03DrawGraph
  simp [stz_eq, putCells, fillZ]
  refine ⟨InvDgr H o n k, ⟨k.toNat, Shr.of ⟨0, _, [], by omega, rfl, by omega, by simp, ⟨H, St.grow hc (Abs.sub_refl _), Held.nil⟩⟩⟩, ?_⟩
  rintro m ys Hc ⟨i, u, es, hi, rfl, rfl, hlen, hu⟩
  have cu := (hx_rc hu (edge_row es)).cell
  have fin : Ret K (.agg [.int .i64 n, u]) Hc := Ret.of (h es u Hc hlen hu)
  simp [stz_eq, putCells, cu]
  rw [i64_in (n := n - 1) (by omega) (by omega), i64_in (n := (i : Int) + 1) (by omega) (by omega)]
  refine ⟨fun hlt => ⟨fun h1 => ?_, fun _ => fin⟩, fun _ => fin⟩
  have next : ∀ (es' : List TEdge) (u' : V) (H' : Heap), es'.length ≤ 60 → Hx H o 3 (es'.map enEdge) u' H' → ∃ n6, n6 < k.toNat - i ∧ Shr (InvDgr H o n k n6 [.box [.int .i64 0, .nils], .box [.int .i64 n, u'], .int .i64 ((i : Int) + 1)]) H' := fun es' u' H' g1 g2 =>
    ⟨k.toNat - (i + 1), by omega, Shr.of ⟨i + 1, u', es', by omega, by simp, rfl, g1, g2⟩⟩
  refine C_s_l01Below (hx_cur hu) fun a H3 a0 a1 _ s3 => ?_
  have hu3 := hx_step hu s3
  refine C_s_l01Below (hx_cur hu3) fun b H4 b0 b1 _ s4 => ?_
  have hu4 := hx_step hu3 s4
  refine C_s_l01Below (hx_cur hu4) fun c H5 c0 c1 _ s5 => ?_
  have hu5 := hx_step hu4 s5
  simp
  rw [i64_in (n := 1 + c) (by omega) (by omega)]
  refine C_pick [1, 1, 2, 2, 3, 5, 1 + c, 1000] rfl rfl rfl (by simp) (by simp) s5.1 fun x H6 _ s6 => ?_
  have hu6 := hx_step hu5 s6
  simp [fillZ, putCells, stz_eq]
  refine ⟨JDgr H o n u es, ?_, ?_⟩
  · refine ⟨fun _ => ?_, fun _ => Shr.of ⟨a, b, x, rfl, hu6⟩⟩
    refine C_s_l01Below (hx_cur hu6) fun d H7 _ _ _ s7 => ?_
    have hu7 := hx_step hu6 s7
    simp
    exact ⟨fun _ => Shr.of ⟨_, _, x, rfl, hu7⟩, fun _ => Shr.of ⟨a, b, x, rfl, hu7⟩⟩
  rintro ys Hd ⟨x, y, z, rfl, hd⟩
  have ed := (hx_rc hd (edge_row es)).len
  simp [stz_eq, putCells, cu, ed]
  refine ⟨fun _ => next _ _ _ hlen hd, fun _ => ⟨fun hl => ?_, fun _ => next _ _ _ hlen hd⟩⟩
  refine w_put (e := (x, y, z)) hd (by omega) fun es7 u7 H7 l7 hu7 c7 => ?_
  simp [stz_eq, putCells, c7]
  refine C_s_l01Below (hx_cur hu7) fun d H8 _ _ _ s8 => ?_
  have hu8 := hx_step hu7 s8
  simp
  refine ⟨fun _ => ?_, fun _ => next _ _ _ (by omega) hu8⟩
  refine C_s_l01Once (hx_cur hu8) fun q H9 s9 => ?_
  have hu9 := hx_step hu8 s9
  simp
  refine ⟨fun _ => ?_, fun _ => ?_⟩
  · refine C_s_l01Below (hx_cur hu9) fun w H10 _ _ _ s10 => ?_
    have hu10 := hx_step hu9 s10
    simp
    refine w_put (e := (y, x, IntKind.i64.wrap (1 + w))) hu10 (by omega) fun es8 u8 H11 l8 hu11 c8 => ?_
    simp [stz_eq, putCells, c8]
    exact next _ _ _ (by omega) hu11
  · refine w_put (e := (y, x, z)) hu9 (by omega) fun es8 u8 H11 l8 hu11 c8 => ?_
    simp [stz_eq, putCells, c8]
    exact next _ _ _ (by omega) hu11

end Go.Proofs.Ytaippfedjjjpeaa
