/-
Contracts of the draws of graphs with edges both ways.
-/
import Derived.Test.YtipdfhjilegkcaaDrawG
set_option linter.all false
namespace Go.Proofs.Ytipdfhjilegkcaa
open Go Go.Abs Go.Proofs

theorem w_put {o : Nat} {e : TEdge} {es : List TEdge} {v : V} {Hs H : Heap} {K : V → Heap → Prop} (hu : Hx Hs o 3 (es.map enEdge) v H) (hl : es.length ≤ 1000)
    (h : ∀ (es' : List TEdge) u H', es'.length ≤ es.length + 1 → Hx Hs o 3 (es'.map enEdge) u H' → (cellsOf u = [u] ∧ cellOk u = true ∧ notAny u = true) → K u H') : ACalls P n_s_l03Put [v, .agg (enEdge e)] H K :=
  C_w_l03Put (hu.rc enEdge_len).rd hl fun es' u H' h1 h2 => h es' u H' h1 (Hx.of hu.st h2) h2.cell
theorem w_tail {o : Nat} {rows : List (List V)} {v : V} {Hs H : Heap} (hu : Hx Hs o 3 rows v H) (hr : ∀ r ∈ rows, r.length = 3) (h0 : 0 < rows.length) : ∃ w, aSlice H 3 v (some (.int .i64 1)) none none = some w ∧ Rc H o 3 w (rows.drop 1) ∧ (cellsOf w = [w] ∧ cellOk w = true ∧ notAny w = true) := by
  obtain ⟨Hb, h1, h2⟩ := hu
  have hc := h1.1
  rcases h2 with ⟨rfl, rfl, rfl⟩ | ⟨o', cap, g1, rfl, g2, rfl⟩
  · simp at h0
  · have hne : o' ≠ o := by rintro rfl; exact hc.some g1
    have key : ∀ c, Rc (upd Hb o' ⟨3, rows⟩) o 3 (.slice o' 1 (rows.length - 1) c) (rows.drop 1) := fun c => by
      refine ⟨fun r hr' => hr r (List.mem_of_mem_drop hr'), .inr (.inr ⟨o', 1, c, ⟨3, rows⟩, by simp, ?_, rfl, by simp; omega, fun i hi => by rw [List.getElem?_drop]⟩)⟩
      unfold del
      rw [if_neg hne, upd_eq]
    cases cap with
    | none => exact ⟨.slice o' 1 (rows.length - 1) none, by simp [aSlice, bound, natOf]; intro e; rw [e] at h0; simp at h0, key _, rfl, rfl, rfl⟩
    | some c =>
      have := g2 c rfl
      exact ⟨.slice o' 1 (rows.length - 1) (some (c - 1)), by simp [aSlice, bound, natOf]; omega, key _, rfl, rfl, rfl⟩

def InvDg (H : Heap) (o : Nat) (m : Nat) (ys : List V) (Hc : Heap) : Prop :=
  ∃ (i : Nat) (n : Int) (u : V) (es : List TEdge), i ≤ 16 ∧ ys = [.box [.int .i64 0, .nils], .box [.int .i64 n, u], .int .i64 (i : Nat)] ∧ m = 16 - i ∧ es.length ≤ 2 * i ∧ Hx H o 3 (es.map enEdge) u Hc
set_option maxHeartbeats 4000000 in
theorem C_w_l10DrawGraph {o : Nat} {v : V} {bs : List (List V)} {H : Heap} {K : V → Heap → Prop} (hc : IsCur H o) (hv : Rc H o 1 v bs) (hl : bs.length ≤ 9223372036854775807)
    (h : ∀ n (es : List TEdge) u H', es.length ≤ 60 → St H o H' → Rc H' o 3 u (es.map enEdge) → K (vG n u) H') : ACalls P n_s_l10DrawGraph [.ptr o 0 0, v] H K := by
  apply W_s_l10DrawGraph
  unfold F_s_l10DrawGraph
  refine C_s_l01Size hv.rd (by omega) hl fun sz hz0 hz1 => ?_
  refine C_s_l01Below hc fun k H1 k0 k1 k2 s1 => ?_
  have hk : k ≤ 6 := by by_cases e : 0 < sz <;> omega
  simp [stz_eq, putCells, fillZ]
  rw [i64_in (n := 2 + k) (by omega) (by omega)]
  refine ⟨InvDg H o, ⟨16, Shr.of ⟨0, _, _, [], by omega, rfl, by omega, by simp, Hx.of s1 Held.nil⟩⟩, ?_⟩
  rintro m ys Hc ⟨i, n, u, es, hi, rfl, rfl, hlen, hu⟩
  simp
  rw [i64_in (n := 2 + k + 1) (by omega) (by omega)]
  have cu := (hu.rc enEdge_len).rd.cell
  refine C_s_l01Below hu.cur fun k' H2 k0' k1' k2' s2 => ?_
  have hu2 := hu.step s2
  simp
  rw [i64_in (n := 2 + k + k') (by omega) (by omega), i64_in (n := (i : Int) + 1) (by omega) (by omega)]
  refine ⟨fun hlt => ?_, fun hge => ?_⟩
  · have hi' : i < 16 := by omega
    refine C_s_l01Below hu2.cur fun a H3 a0 a1 _ s3 => ?_
    refine C_s_l01Below s3.1 fun b H4 b0 b1 _ s4 => ?_
    have hu4 := (hu2.step s3).step s4
    simp
    rw [i64_in (n := 2 + k - 1) (by omega) (by omega)]
    have next : ∀ (es' : List TEdge) (u' : V) (H' : Heap), es'.length ≤ es.length + 2 → Hx H o 3 (es'.map enEdge) u' H' → ∃ n11, n11 < 16 - i ∧ Shr (InvDg H o n11 [.box [.int .i64 0, .nils], .box [.int .i64 n, u'], .int .i64 ((i : Int) + 1)]) H' := fun es' u' H' h1 h2 =>
      ⟨16 - (i + 1), by omega, Shr.of ⟨i + 1, n, u', es', by omega, by simp, rfl, by omega, h2⟩⟩
    have two : ∀ (a b : Int), ACalls P n_s_l01Below [.ptr o 0 0, .int .i64 9] H4 fun v28 H29 =>
        bnd (aBinN .add (.int .i64 1) v28) fun t30 =>
        bnd (bsl 1 5 [(.int .i64 0)] [(0, (.int .i64 1)), (1, (.int .i64 1)), (2, (.int .i64 2)), (3, (.int .i64 3)), (4, t30)]) fun r31 =>
        ∀ o32, H29 o32 = none →
        ACalls P n_s_l01PickInt [.ptr o 0 0, (.slice o32 0 5 (some 5))] (upd H29 o32 ⟨1, r31⟩) fun v33 H34 =>
        bnd (fillZ [(.int .i64 0), (.int .i64 0), (.int .i64 0)] [(0, 1, .int .i64 a), (1, 1, .int .i64 b), (2, 1, v33)]) fun c36 =>
        ACalls P n_s_l03Put [u, (.agg c36)] H34 fun v37 H38 =>
        bnd (stz 1 [.int .i64 n, u] 1 v37) fun c39 =>
        ACalls P n_s_l01Once [.ptr o 0 0, (.int .i64 6)] H38 fun v40 H41 =>
        cnd v40
        (ACalls P n_s_l01Below [.ptr o 0 0, (.int .i64 5)] H41 fun v42 H43 =>
        bnd (aBinN .add (.int .i64 1) v42) fun t44 =>
        bnd (partOf false 1 c39 1) fun t45 =>
        bnd (fillZ [(.int .i64 0), (.int .i64 0), (.int .i64 0)] [(0, 1, .int .i64 b), (1, 1, .int .i64 a), (2, 1, t44)]) fun c46 =>
        ACalls P n_s_l03Put [t45, (.agg c46)] H43 fun v47 H48 =>
        bnd (stz 1 c39 1 v47) fun c49 =>
        ∃ n11, n11 < 16 - i ∧ Shr (InvDg H o n11 [.box [.int .i64 0, .nils], .box c49, .int .i64 ((i : Int) + 1)]) H48)
        (bnd (partOf false 1 c39 1) fun t51 =>
        bnd (fillZ [(.int .i64 0), (.int .i64 0), (.int .i64 0)] [(0, 1, .int .i64 b), (1, 1, .int .i64 a), (2, 1, v33)]) fun c52 =>
        ACalls P n_s_l03Put [t51, (.agg c52)] H41 fun v53 H54 =>
        bnd (stz 1 c39 1 v53) fun c55 =>
        ∃ n11, n11 < 16 - i ∧ Shr (InvDg H o n11 [.box [.int .i64 0, .nils], .box c55, .int .i64 ((i : Int) + 1)]) H54) := fun a b => by
      refine C_s_l01Below hu4.cur fun c H5 c0 c1 _ s5 => ?_
      simp
      rw [i64_in (n := 1 + c) (by omega) (by omega)]
      refine C_pick [1, 1, 2, 3, 1 + c] rfl rfl rfl (by simp) (by simp) s5.1 fun x H6 _ s6 => ?_
      have hu6 := (hu4.step s5).step s6
      simp [fillZ, putCells]
      refine w_put (e := (a, b, x)) hu6 (by omega) fun es7 u7 H7 l7 hu7 c7 => ?_
      simp [stz_eq, putCells, c7]
      refine C_s_l01Once hu7.cur fun q H8 s8 => ?_
      have hu8 := hu7.step s8
      simp
      refine ⟨fun _ => ?_, fun _ => ?_⟩
      · refine C_s_l01Below hu8.cur fun y H9 y0 y1 _ s9 => ?_
        have hu9 := hu8.step s9
        simp [fillZ, putCells]
        refine w_put (e := (b, a, IntKind.i64.wrap (1 + y))) hu9 (by omega) fun es10 u10 H10 l10 hu10 c10 => ?_
        simp [stz_eq, putCells, c10]
        exact next _ _ _ (by omega) hu10
      · skip
        refine w_put (e := (b, a, x)) hu8 (by omega) fun es10 u10 H10 l10 hu10 c10 => ?_
        simp [stz_eq, putCells, c10]
        exact next _ _ _ (by omega) hu10
    simp [fillZ, putCells, stz_eq, cu] at two
    refine ⟨fun _ => ?_, fun _ => ⟨fun _ => next _ _ _ (by omega) hu4, fun _ => ?_⟩⟩
    · refine ⟨fun hh => by omega, fun _ => ?_⟩
      have := two (i : Int) ((i : Int) + 1)
      simpa [fillZ, putCells, stz_eq, cu] using this
    · have := two a b
      simpa [fillZ, putCells, stz_eq, cu] using this
  · refine C_s_l01Once hu2.cur fun q H3 s3 => ?_
    have hu3 := hu2.step s3
    have fin : ∀ (n' : Int) (u' : V) (es' : List TEdge) (H5 : Heap), es'.length ≤ 60 → Hx H o 3 (es'.map enEdge) u' H5 → ∀ b : Bool, gd (.bool b) true
        (bnd (partOf false 1 [.int .i64 n', u'] 1) fun t96 =>
        bnd (lenOf t96) fun n97 =>
        bnd (aBinN .gtr (.int .i64 (n97 : Nat)) (.int .i64 0)) fun t98 =>
        cnd t98
        (bnd (partOf false 1 [.int .i64 n', u'] 1) fun t99 =>
        bnd (aSlice H5 3 t99 (some (.int .i64 1)) none none) fun t100 =>
        bnd (stz 1 [.int .i64 n', u'] 1 t100) fun c101 =>
        bnd (partOf true 2 c101 0) fun t102 =>
        bnd (stz 2 [.int .i64 0, .nils] 0 t102) fun c103 =>
        bnd (partOf true 2 c103 0) fun t104 =>
        Ret K t104 H5)
        (bnd (partOf true 2 [.int .i64 n', u'] 0) fun t105 =>
        bnd (stz 2 [.int .i64 0, .nils] 0 t105) fun c106 =>
        bnd (partOf true 2 c106 0) fun t107 =>
        Ret K t107 H5))
        (bnd (partOf true 2 [.int .i64 n', u'] 0) fun t108 =>
        bnd (stz 2 [.int .i64 0, .nils] 0 t108) fun c109 =>
        bnd (partOf true 2 c109 0) fun t110 =>
        Ret K t110 H5) := fun n' u' es' H5 hl' hu' b => by
      have cu' := (hu'.rc enEdge_len).rd.cell
      have e1 := (hu'.rc enEdge_len).rd.len
      simp [e1, cu', stz_eq, putCells]
      have keep : Ret K (vG n' u') H5 := Ret.of (h n' es' u' H5 hl' hu'.st (hu'.rc enEdge_len))
      refine ⟨fun _ => ⟨fun hpos => ?_, fun _ => keep⟩, fun _ => keep⟩
      obtain ⟨w, w1, w2, w3⟩ := w_tail hu' enEdge_len (by simp; omega)
      rw [w1]
      simp [stz_eq, putCells, w3]
      rw [← List.map_drop] at w2
      exact Ret.of (h n' _ w H5 (by simp; omega) hu'.st w2)
    simp
    refine ⟨fun _ => ?_, fun _ => ?_⟩
    · refine C_w_l03Bend hu3 (by omega) fun n4 es4 u4 H4 l4 hu4 => ?_
      have c4 := (hu4.rc enEdge_len).rd.cell
      simp [stz_eq, putCells, c4]
      refine C_s_l01Once hu4.cur fun q H5 s5 => ?_
      have := fin n4 u4 es4 H5 (by omega) (hu4.step s5) q
      simpa [stz_eq, putCells, c4] using this
    · refine C_s_l01Once hu3.cur fun q H5 s5 => ?_
      have := fin n u es H5 (by omega) (hu3.step s5) q
      simpa [stz_eq, putCells, cu] using this

def InvD2 (H : Heap) (o : Nat) (n : Int) (u : V) (es : List TEdge) (m : Nat) (ys : List V) (Hc : Heap) : Prop :=
  ∃ (k n2 : Int) (w : V) (fs : List TEdge), k ≤ 3 ∧ ys = [.box [.int .i64 0, .nils], .box [.int .i64 0, .nils], .box [.int .i64 n, u], .box [.int .i64 n2, w], .int .i64 k] ∧ m = k.toNat ∧ (fs.length : Int) ≤ 63 - max k 0 ∧ St H o Hc ∧ Rc Hc o 3 u (es.map enEdge) ∧ Rc Hc o 3 w (fs.map enEdge)
end Go.Proofs.Ytipdfhjilegkcaa
