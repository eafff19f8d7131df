/-
Contracts: the reference's graph without a link; on a way; draws of a graph, two neighbors and a node.
-/
import Derived.Test.YtipdfhjilegkcaaRemP
import Derived.Test.YtipdfhjilegkcaaDrawH
import Derived.Test.YtipdfhjilegkcaaLawAid
set_option linter.all false
namespace Go.Proofs.Ytipdfhjilegkcaa
open Go Go.Abs Go.Proofs

theorem keep_yes {es : List TEdge} {x y : Int} {i : Nat} (hi : i < es.length) (h : keepE x y es[i] = true) : (es.take (i + 1)).filter (keepE x y) = (es.take i).filter (keepE x y) ++ [es[i]] := by
  rw [List.take_succ_eq_append_getElem hi, List.filter_append]; simp [h]
theorem keep_no {es : List TEdge} {x y : Int} {i : Nat} (hi : i < es.length) (h : keepE x y es[i] = false) : (es.take (i + 1)).filter (keepE x y) = (es.take i).filter (keepE x y) := by
  rw [List.take_succ_eq_append_getElem hi, List.filter_append]; simp [h]
def InvWx (r : List V) (n x y : Int) (es : List TEdge) (H : Heap) (m : Nat) (ys : List V) (Hc : Heap) : Prop :=
  ∃ (i : Nat) (u : V), i ≤ es.length ∧ ys = [.box r, .box [.int .i64 0, .nils], .box [.int .i64 n, u], .int .i64 (i : Nat)] ∧ m = es.length - i ∧ Held H 3 (((es.take i).filter (keepE x y)).map enEdge) u Hc
def JWx (b : Bool) (H : Heap) (ys : List V) (Hc : Heap) : Prop := ys = [.bool b] ∧ Hc = H
set_option maxHeartbeats 2000000 in
theorem C_x_Without {n x y : Int} {es : List TEdge} {v : V} {H : Heap} {K : V → Heap → Prop} (hv : Rd H 3 v (es.map enEdge)) (hl : es.length ≤ 1000)
    (h : ∀ u b H', Held H 3 ((wo n es x y).map enEdge) u H' → K (.tup [vG n u, .bool b]) H') : ACalls P n_s_Without [vG n v, .int .i64 x, .int .i64 y] H K := by
  have hc := hv.cell
  apply W_s_Without
  unfold F_s_Without
  simp [hc, stz_eq, putCells, fillZ]
  refine ⟨InvWx [.int .i64 n, v] n x y es H, ⟨es.length, Shr.of ⟨0, .nils, by omega, rfl, by omega, by simpa using Held.nil⟩⟩, ?_⟩
  rintro m ys Hc ⟨i, u, hi, rfl, rfl, hu⟩
  have cu := hu.cell
  simp [hc, hv.len]
  refine ⟨fun hlt => ?_, fun hge => ?_⟩
  · have hgd : (es.map enEdge).getD i [] = enEdge es[i] := by simp [hlt]
    refine (hv.mono hu.sub).idx (by omega) (by simpa using hlt) fun p hpp => ?_
    simp only [Int.toNat_natCast, hgd] at hpp
    rw [hpp.ld]
    simp [stz_eq, putCells]
    refine ⟨JWx (keepE x y es[i]) Hc, ?_, ?_⟩
    · have key : ∀ c : Bool, keepE x y es[i] = c → Shr (JWx (keepE x y es[i]) Hc [V.bool c]) Hc := fun c hcc => Shr.of ⟨by rw [hcc], rfl⟩
      unfold keepE at key
      refine ⟨fun q1 => ⟨fun q2 => ⟨fun q3 => key _ ?_, fun q3 => key _ ?_⟩, fun q2 => key _ ?_⟩, fun q1 => ⟨fun q3 => key _ ?_, fun q3 => key _ ?_⟩⟩
      all_goals (rw [Bool.eq_iff_iff]; simp; omega)
    · rintro ys Hd ⟨rfl, rfl⟩
      have hll := List.length_filter_le (keepE x y) (es.take i)
      have htl : (es.take i).length ≤ i := by simp; omega
      simp [cu, bsl_one]
      rw [i64_in (n := (i : Int) + 1) (by omega) (by omega)]
      refine ⟨fun q => ?_, fun q => ?_⟩
      · intro o7 ho7
        refine hu.append (sub_fresh ho7) (by simp) (by rw [List.length_map]; simp only [List.length_cons, List.length_nil]; omega) fun v' H' H'' ho' hs' => ?_
        have cv := ho'.cell
        simp [stz_eq, putCells, cv]
        refine ⟨es.length - (i + 1), by omega, H'', hs', i + 1, v', by omega, by simp, rfl, ?_⟩
        rw [keep_yes hlt q, List.map_append]
        exact ho'
      · exact ⟨es.length - (i + 1), by omega, Shr.of ⟨i + 1, u, by omega, by simp, rfl, by rw [keep_no hlt q]; exact hu⟩⟩
  · have : i = es.length := by omega
    subst this
    rw [List.take_length] at hu
    refine C_s_GraphOk (hv.mono hu.sub) ?_
    have cp : wo n es x y = es → ACalls P n_s_l03Copy [vG n v] Hc fun v54 H55 => bnd (stz 2 [V.int .i64 0, .nils] 0 v54) fun c => bnd (partOf true 2 c 0) fun t => Ret K (.tup [t, .bool false]) H55 := fun he => by
      refine C_g_l03Copy (hv.mono hu.sub) (by omega) fun u2 H2 h2 => ?_
      have c2 := h2.cell
      simp [stz_eq, putCells, c2]
      obtain ⟨Hz, z1, z2⟩ := h2.shrink hu.sub
      refine Ret.shr (h u2 false Hz ?_) rfl z2
      rw [he]; exact z1
    simp [cu, (hu.rd enEdge_len).len, stz_eq, putCells] at cp ⊢
    refine ⟨fun q => cp (by rw [wo, if_neg q]), fun q => ⟨fun q2 => cp ?_, fun q2 => ?_⟩⟩
    · rw [wo, if_pos q]
      exact List.filter_sublist.eq_of_length (by omega)
    · have := h u true Hc
      rw [wo, if_pos q] at this
      exact Ret.of (this hu)

/-! #### on a way -/
def onW (n : Int) (es : List TEdge) (a b x : Int) : Prop := far n es a b < 1000000 ∧ far n es a x + far n es x b = far n es a b
instance (n : Int) (es : List TEdge) (a b x : Int) : Decidable (onW n es a b x) := by unfold onW; infer_instance
theorem C_i_onWay {n a b x : Int} {u : V} {es : List TEdge} {H : Heap} {K : V → Heap → Prop} (hu : Rd2 H 1 u (allD n es)) (hg : graphOk n es) (ha : 0 ≤ a ∧ a < n) (hb : 0 ≤ b ∧ b < n) (hx : 0 ≤ x ∧ x < n)
    (h : K (.bool (decide (onW n es a b x))) H) : ACalls P n_i_onWay [u, .int .i64 a, .int .i64 b, .int .i64 x] H K := by
  have f1 := far_in hg a hx.1 hx.2
  have f2 := far_in hg x hb.1 hb.2
  apply W_i_onWay
  unfold F_i_onWay
  refine ⟨H, Abs.sub_refl _, ?_⟩
  refine far_ld hu hg ha hb ?_
  simp
  refine ⟨fun q => ?_, fun q => Ret.no h fun hh => by have := hh.1; omega⟩
  refine far_ld hu hg ha hx ?_
  refine far_ld hu hg hx hb ?_
  simp
  rw [i64_in (n := far n es a x + far n es x b) (by omega) (by omega)]
  refine far_ld hu hg ha hb ?_
  exact Ret.iff h ⟨fun hh => ⟨q, hh⟩, fun hh => hh.2⟩
theorem C_i_OnWay {n a b x : Int} {v : V} {es : List TEdge} {H : Heap} {K : V → Heap → Prop} (hv : Rd H 3 v (es.map enEdge)) (h : K (.bool (decide (graphOk n es ∧ (0 ≤ a ∧ a < n) ∧ (0 ≤ b ∧ b < n) ∧ (0 ≤ x ∧ x < n) ∧ onW n es a b x))) H) :
    ACalls P n_i_OnWay [vG n v, .int .i64 a, .int .i64 b, .int .i64 x] H K := by
  have hc := hv.cell
  apply W_i_OnWay
  unfold F_i_OnWay
  simp [hc]
  refine C_i_GraphOk hv ?_
  simp
  refine ⟨fun hg => ?_, fun q => Ret.no h fun hh => q hh.1⟩
  refine C_i_Graph_isNode hv hg.1 ?_
  simp
  refine ⟨fun q1 q2 => ?_, fun q => Ret.no h fun hh => by have := hh.2.1; omega⟩
  refine C_i_Graph_isNode hv hg.1 ?_
  simp
  refine ⟨fun q3 q4 => ?_, fun q => Ret.no h fun hh => by have := hh.2.2.1; omega⟩
  refine C_i_Graph_isNode hv hg.1 ?_
  simp
  refine ⟨fun q5 q6 => ?_, fun q => Ret.no h fun hh => by have := hh.2.2.2.1; omega⟩
  refine C_i_Graph_all hv hg fun u H1 s1 hu => ?_
  refine C_i_onWay hu hg ⟨q1, q2⟩ ⟨q3, q4⟩ ⟨q5, q6⟩ ?_
  refine Ret.shr h ?_ s1
  simp [hg, q1, q2, q3, q4, q5, q6]

/-! #### draws -/
theorem C_w_l10DrawNear {o : Nat} {n : Int} {v : V} {es : List TEdge} {H : Heap} {K : V → Heap → Prop} (hc : IsCur H o) (hv : Rc H o 3 v (es.map enEdge)) (h : ∀ x y Hd, St H o Hd → K (.tup [.int .i64 x, .int .i64 y]) Hd) : ACalls P n_s_l10DrawNear [.ptr o 0 0, vG n v] H K := by
  have hcell := hv.rd.cell
  have two : ∀ Hx, St H o Hx → IsCur Hx o → ∃ S, Abs.sub S Hx ∧ ACalls P n_s_l03DrawNode [.ptr o 0 0, vG n v] Hx fun v24 H25 => Abs.sub S H25 ∧ ACalls P n_s_l03DrawNode [.ptr o 0 0, vG n v] H25 fun v26 H27 => Abs.sub S H27 ∧ Ret K (.tup [v24, v26]) H27 := fun Hx hs hcx => by
    refine ⟨noHeap, noHeap_sub _, ?_⟩
    refine C_w_l03DrawNode hcx hcell fun x H1 s1 => ⟨noHeap_sub _, ?_⟩
    refine C_w_l03DrawNode s1.1 hcell fun y H2 s2 => ⟨noHeap_sub _, ?_⟩
    exact Ret.of (h x y H2 ((hs.trans s1).trans s2))
  apply W_s_l10DrawNear
  unfold F_s_l10DrawNear
  simp [hcell, hv.rd.len] at two ⊢
  refine ⟨fun hpos => ?_, fun _ => two H (St.grow hc (Abs.sub_refl _)) hc⟩
  refine C_s_l01Once hc fun q H1 s1 => ?_
  simp
  refine ⟨fun _ => ?_, fun _ => two H1 s1 s1.1⟩
  refine C_s_l01Below s1.1 fun x H2 x0 x1 _ s2 => ?_
  have hx := x1 (by omega)
  have hi : x.toNat < es.length := by omega
  refine ((hv.st s1).st s2).rd.idx x0 (by simpa using hx) fun p hp => ?_
  rw [hp.ld]
  simp [hi]
  intro o5 ho5
  rw [aSt_at (upd_eq _ _ _)]
  simp [stz_eq, putCells]
  refine ⟨_, Abs.sub_refl _, ?_⟩
  simp [aField]
  rw [aLd_at (upd_eq _ _ _), aLd_at (upd_eq _ _ _)]
  simp
  exact Ret.of (h _ _ _ ((s1.trans s2).more (sub_fresh ho5)))
theorem C_w_DrawLoopFree {v : V} {bs : List (List V)} {H : Heap} {K : V → Heap → Prop} (hv : Rd H 1 v bs) (hb : Bs bs) (hl : bs.length ≤ 9223372036854775807) (hcell : cellsOf v = [v] ∧ cellOk v = true ∧ notAny v = true)
    (h : ∀ n (es : List TEdge) u s f d H', es.length ≤ 100 → Rd H' 3 u (es.map enEdge) → K (.tup [vG n u, .int .i64 s, .int .i64 f, .int .i64 d]) H') : ACalls P n_s_DrawLoopFree [v] H K := by
  apply W_s_DrawLoopFree
  unfold F_s_DrawLoopFree
  refine C_s_l01New hv hb hl hcell fun o H1 ho hc1 hs1 => ?_
  have rv : Rc H1 o 1 v bs := by
    refine Rd.mono hv fun i x hi => ?_
    unfold del
    rw [if_neg (by rintro rfl; rw [ho] at hi; cases hi)]
    exact hs1 _ _ hi
  refine C_w_l10DrawGraph hc1 rv hl fun n es u H2 l1 s2 r1 => ?_
  have c1 := r1.rd.cell
  simp [stz_eq, putCells, c1]
  refine C_w_l10DrawNear s2.1 r1 fun x y H3 s3 => ?_
  simp
  refine ⟨noHeap, noHeap_sub _, ?_⟩
  refine C_w_l03DrawNode s3.1 c1 fun d H4 s4 => ⟨noHeap_sub _, ?_⟩
  exact Ret.of (h n es u x y d H4 (by omega) ((r1.st s3).st s4).rd)
theorem C_w_DrawRemote {v : V} {bs : List (List V)} {H : Heap} {K : V → Heap → Prop} (hv : Rd H 1 v bs) (hb : Bs bs) (hl : bs.length ≤ 9223372036854775807) (hcell : cellsOf v = [v] ∧ cellOk v = true ∧ notAny v = true)
    (h : ∀ n (es : List TEdge) u s f d H', es.length ≤ 100 → Rd H' 3 u (es.map enEdge) → K (.tup [vG n u, .int .i64 s, .int .i64 f, .int .i64 d]) H') : ACalls P n_s_DrawRemote [v] H K := by
  apply W_s_DrawRemote
  unfold F_s_DrawRemote
  refine C_w_DrawLoopFree hv hb hl hcell fun n es u s f d H1 l1 r1 => ?_
  have c1 := r1.cell
  simp [stz_eq, putCells, c1]
  exact Ret.of (h n es u s f d H1 l1 r1)
theorem C_w_DrawWalkAround {v : V} {bs : List (List V)} {H : Heap} {K : V → Heap → Prop} (hv : Rd H 1 v bs) (hb : Bs bs) (hl : bs.length ≤ 9223372036854775807) (hcell : cellsOf v = [v] ∧ cellOk v = true ∧ notAny v = true)
    (h : ∀ n (es : List TEdge) u s f d H', es.length ≤ 100 → Rd H' 3 u (es.map enEdge) → K (.tup [vG n u, .int .i64 s, .int .i64 f, .int .i64 d]) H') : ACalls P n_s_DrawWalkAround [v] H K := by
  apply W_s_DrawWalkAround
  unfold F_s_DrawWalkAround
  refine C_w_DrawLoopFree hv hb hl hcell fun n es u s f d H1 l1 r1 => ?_
  have c1 := r1.cell
  simp [stz_eq, putCells, c1]
  exact Ret.of (h n es u s f d H1 l1 r1)

end Go.Proofs.Ytipdfhjilegkcaa
