/-
Contracts: the reference's edges: put, left out.
-/
import Derived.Test.YtohicpepcjgnaaaGreatEdgeP
import Derived.Test.YtohicpepcjgnaaaGreatNtM
import Derived.Test.YtohicpepcjgnaaaGreatDelivD
import Derived.Test.YtohicpepcjgnaaaGreatAnnP
import Derived.Test.YtohicpepcjgnaaaGreatSetP
import Derived.Test.YtohicpepcjgnaaaGreatIns
import Derived.Test.YtohicpepcjgnaaaGreatDelivC
set_option linter.all false
namespace Go.Proofs.YtohicpepcjgnaaaGreat
open Go Go.Abs Go.Proofs

/-- What has been put together of the first i edges. -/
def outE (e : TEdge) (es : List TEdge) (i : Nat) (d : Bool) : List TEdge := if d then putE e (es.take i) else es.take i
def okE (e : TEdge) (es : List TEdge) (i : Nat) (d : Bool) : Prop := if d then ∃ j, ∃ h : j < es.length, j < i ∧ ¬ elt es[j] e else ∀ j, (h : j < es.length) → j < i → elt es[j] e
theorem all_low {e : TEdge} {es : List TEdge} (h : ∀ f ∈ es, elt f e) : lows e es = es ∧ highs e es = [] := by
  unfold lows highs
  exact ⟨List.filter_eq_self.2 fun f hf => by simpa using h f hf, List.filter_eq_nil_iff.2 fun f hf => by simpa using elt_asymm (h f hf)⟩
theorem okE_low {e : TEdge} {es : List TEdge} {i : Nat} (h : okE e es i false) : ∀ f ∈ es.take i, elt f e := fun f hf => by
  obtain ⟨j, hj, rfl⟩ := List.mem_iff_getElem.1 hf
  simp at hj
  rw [List.getElem_take]
  unfold okE at h
  simp at h
  exact h j (by omega) (by omega)
theorem put_snoc {e f : TEdge} {xs : List TEdge} (h : ¬ elt f e) : putE e (xs ++ [f]) = putE e xs ++ (if elt e f then [f] else []) := by
  unfold putE lows highs
  rw [List.filter_append, List.filter_append]
  by_cases q : elt e f <;> simp [h, q]
/-- One edge more, which stands behind e or at it. -/
theorem out_next {e : TEdge} {es : List TEdge} {i : Nat} {d : Bool} (hi : i < es.length) (hok : okE e es i d) (h : ¬ elt es[i] e) : outE e es (i + 1) true = (if d then outE e es i d else outE e es i d ++ [e]) ++ (if elt e es[i] then [es[i]] else []) := by
  unfold outE
  rw [List.take_succ_eq_append_getElem hi]
  simp only [if_true]
  rw [put_snoc h]
  cases d with
  | true => simp
  | false =>
    simp only [Bool.false_eq_true, if_false]
    have := all_low (okE_low hok)
    unfold putE
    rw [this.1, this.2]
    simp
theorem okE_next {e : TEdge} {es : List TEdge} {i : Nat} (hi : i < es.length) (h : ¬ elt es[i] e) : okE e es (i + 1) true := by
  unfold okE
  simp only [if_true]
  exact ⟨i, hi, by omega, h⟩
theorem okE_past {e : TEdge} {es : List TEdge} {i : Nat} (hp : es.Pairwise elt) (hi : i < es.length) (hok : okE e es i true) : elt e es[i] := by
  unfold okE at hok
  simp only [if_true] at hok
  obtain ⟨j, hj, hji, hn⟩ := hok
  have := List.pairwise_iff_getElem.1 hp j i hj hi hji
  unfold elt at *
  omega
theorem okE_keep {e : TEdge} {es : List TEdge} {i : Nat} (hi : i < es.length) (hok : okE e es i false) (h : elt es[i] e) : okE e es (i + 1) false ∧ outE e es (i + 1) false = outE e es i false ++ [es[i]] := by
  unfold okE outE at *
  simp only [Bool.false_eq_true, if_false] at *
  refine ⟨fun j hj hji => ?_, List.take_succ_eq_append_getElem hi⟩
  by_cases e : j = i
  · subst e; exact h
  · exact hok j hj (by omega)
def InvPt (e : TEdge) (es : List TEdge) (H : Heap) (m : Nat) (ys : List V) (Hc : Heap) : Prop :=
  ∃ (i : Nat) (d : Bool) (u : V), i ≤ es.length ∧ ys = [.box (enEdge e), u, .bool d, .int .i64 (i : Nat)] ∧ m = es.length - i ∧ okE e es i d ∧ (outE e es i d).length ≤ i + 1 ∧ Held H 3 ((outE e es i d).map enEdge) u Hc
def JP1 (e f : TEdge) (d : Bool) (H : Heap) (ys : List V) (Hc : Heap) : Prop := ys = [.bool (decide (d = false ∧ ¬ elt f e))] ∧ Hc = H
def JP2 (e f : TEdge) (out : List TEdge) (d : Bool) (H : Heap) (ys : List V) (Hc : Heap) : Prop :=
  ∃ u, ys = [u, .bool (d || decide (¬ elt f e))] ∧ Held H 3 ((if d = false ∧ ¬ elt f e then out ++ [e] else out).map enEdge) u Hc
theorem out_len {e : TEdge} {es : List TEdge} {i : Nat} {d : Bool} (hi : i ≤ es.length) : (outE e es i d).length ≤ i + 1 := by
  unfold outE
  split
  · unfold putE lows highs
    rw [List.length_append, List.length_append]
    have h : ∀ xs : List TEdge, (xs.filter fun f => decide (elt f e)).length + (xs.filter fun f => decide (elt e f)).length ≤ xs.length := fun xs => by
      induction xs with
      | nil => simp
      | cons a xs ih =>
        rw [List.filter_cons, List.filter_cons]
        by_cases q : elt a e
        · have := elt_asymm q
          simp [q, this]; omega
        · by_cases p : elt e a
          · simp [q, p]; omega
          · simp [q, p]; omega
    have := h (es.take i)
    simp at this ⊢
    omega
  · simp; omega
set_option maxHeartbeats 2000000 in
theorem C_s_l03Put {e : TEdge} {es : List TEdge} {v : V} {H : Heap} {K : V → Heap → Prop} (hv : Rd H 3 v (es.map enEdge)) (hl : es.length ≤ 1000) (hp : es.Pairwise elt)
    (h : ∀ u H', Held H 3 ((putE e es).map enEdge) u H' → K u H') : ACalls P n_s_l03Put [v, .agg (enEdge e)] H K := by
  apply W_s_l03Put
  unfold F_s_l03Put
  have hb0 : bsl 3 0 [V.int .i64 0, .int .i64 0, .int .i64 0] [] = some [] := rfl
  simp [hb0, bsl_one]
  intro o2 ho2
  have hnew : Held H 3 (([] : List TEdge).map enEdge) (.slice o2 0 0 (some 0)) (upd H o2 ⟨3, []⟩) := Held.new ho2
  refine ⟨InvPt e es H, ⟨es.length, Shr.of ⟨0, false, .slice o2 0 0 (some 0), by omega, rfl, by omega, ?_, by simp [outE], by simpa [outE] using hnew⟩⟩, ?_⟩
  · unfold okE
    simp
  rintro m ys Hc ⟨i, d, u, hi, rfl, rfl, hok, hlen, hu⟩
  have cu := hu.cell
  simp [hv.len]
  refine ⟨fun hlt => ?_, fun hge => ?_⟩
  · have hgd : (es.map enEdge).getD i [] = enEdge es[i] := by simp [hlt]
    refine (hv.mono hu.sub).idx (by omega) (by simpa using hlt) fun p hpp => ?_
    simp only [Int.toNat_natCast, hgd] at hpp
    rw [hpp.ld]
    simp [stz_eq, putCells]
    refine ⟨JP2 e es[i] (outE e es i d) d H, ?_, ?_⟩
    · refine ⟨JP1 e es[i] d Hc, ?_, ?_⟩
      · refine ⟨fun q => ⟨fun q1 => ?_, fun q1 => ⟨fun q2 => ?_, fun q2 => ?_⟩⟩, fun q => ?_⟩
        · refine Shr.of ⟨?_, rfl⟩
          have : ¬ elt es[i] e := by unfold elt; omega
          simp [q, this]
        · refine Shr.of ⟨?_, rfl⟩
          simp only [List.cons.injEq, V.bool.injEq, and_true, decide_eq_decide, q, true_and]
          unfold elt; omega
        · refine Shr.of ⟨?_, rfl⟩
          have : elt es[i] e := by unfold elt; omega
          simp [this]
        · refine Shr.of ⟨?_, rfl⟩
          simp [q]
      · rintro ys Hd ⟨rfl, rfl⟩
        simp [bsl_one]
        refine ⟨fun q1 q2 => ?_, fun q => ?_⟩
        · intro o7 ho7
          refine hu.append (sub_fresh ho7) (by simp) (by simp; omega) fun v' H' H'' ho' hs' => ?_
          refine ⟨H'', hs', v', by simp [q2], ?_⟩
          rw [if_pos ⟨q1, q2⟩, List.map_append]
          exact ho'
        · refine Shr.of ⟨u, ?_, ?_⟩
          · by_cases q3 : elt es[i] e
            · simp [q3]
            · cases d with
              | true => simp
              | false => exact absurd (q rfl) q3
          · rw [if_neg fun hh => hh.2 (q hh.1)]
            exact hu
    · rintro ys Hd ⟨u2, rfl, hu2⟩
      have cu2 := hu2.cell
      simp [bsl_one]
      rw [i64_in (n := (i : Int) + 1) (by omega) (by omega)]
      have hstep : ∀ (b : Bool) (v' : V) (H' : Heap) (H'' : Heap), (b = true ↔ es[i].1 ≠ e.1 ∨ es[i].2.1 ≠ e.2.1) → Held H 3 (((if d = false ∧ ¬ elt es[i] e then outE e es i d ++ [e] else outE e es i d) ++ (if b then [es[i]] else [])).map enEdge) v' H'' → Abs.sub H'' H' →
          ∃ n6, n6 < es.length - i ∧ Shr (InvPt e es H n6 [.box (enEdge e), v', .bool (d || !decide (elt es[i] e)), .int .i64 ((i : Int) + 1)]) H' := fun b v' H' H'' hb hh hs => by
        refine ⟨es.length - (i + 1), by omega, H'', hs, i + 1, d || !decide (elt es[i] e), v', by omega, by simp, rfl, ?_, out_len (by omega), ?_⟩
        · by_cases q : elt es[i] e
          · cases d with
            | true =>
              have := okE_past hp hlt hok
              exact absurd q (elt_asymm this)
            | false =>
              simp only [q, decide_true, Bool.not_true, Bool.or_false]
              exact (okE_keep hlt hok q).1
          · have := okE_next (e := e) hlt q
            simpa [q] using this
        · by_cases q : elt es[i] e
          · cases d with
            | true =>
              have := okE_past hp hlt hok
              exact absurd q (elt_asymm this)
            | false =>
              simp only [q, decide_true, Bool.not_true, Bool.or_false]
              rw [(okE_keep hlt hok q).2]
              rw [if_neg fun hh => hh.2 q] at hh
              have hbt : b = true := hb.2 (by unfold elt at q; omega)
              rw [if_pos hbt] at hh
              exact hh
          · have e1 : (d || !decide (elt es[i] e)) = true := by simp [q]
            rw [e1, out_next hlt hok q]
            have e2 : (if d = false ∧ ¬ elt es[i] e then outE e es i d ++ [e] else outE e es i d) = (if d = true then outE e es i d else outE e es i d ++ [e]) := by
              cases d <;> simp [q]
            rw [e2] at hh
            have e3 : (if b = true then [es[i]] else []) = (if elt e es[i] then [es[i]] else []) := by
              have : b = true ↔ elt e es[i] := by rw [hb]; unfold elt at *; omega
              by_cases p : elt e es[i]
              · rw [if_pos p, if_pos (this.2 p)]
              · rw [if_neg p, if_neg fun hh => p (this.1 hh)]
            rw [e3] at hh
            exact hh
      have hlen2 : (if d = false ∧ ¬ elt es[i] e then outE e es i d ++ [e] else outE e es i d).length ≤ i + 2 := by
        split
        · simp; omega
        · omega
      have add : (es[i].1 ≠ e.1 ∨ es[i].2.1 ≠ e.2.1) → ∀ (o7 : Nat), Hd o7 = none → appendK (upd Hd o7 ⟨3, [enEdge es[i]]⟩) 3 24 u2 [enEdge es[i]] fun v47 H48 =>
          ∃ n6, n6 < es.length - i ∧ Shr (InvPt e es H n6 [.box (enEdge e), v47, .bool (d || !decide (elt es[i] e)), .int .i64 ((i : Int) + 1)]) H48 := fun hk o7 ho7 => by
        refine hu2.append (sub_fresh ho7) (by simp) (by rw [List.length_map]; simp only [List.length_cons, List.length_nil]; omega) fun v' H' H'' ho' hs' => ?_
        refine hstep true v' H' H'' ⟨fun _ => hk, fun _ => rfl⟩ ?_ hs'
        rw [if_pos rfl, List.map_append]
        exact ho'
      refine ⟨fun q1 => add (.inl q1), fun q1 => ⟨fun q2 => add (.inr q2), fun q2 => ?_⟩⟩
      refine hstep false u2 Hd Hd ⟨fun hh => absurd hh (by simp), fun hh => (by rcases hh with hh | hh <;> contradiction)⟩ ?_ (Abs.sub_refl _)
      simpa using hu2
  · have : i = es.length := by omega
    subst this
    have hfin : outE e es es.length true = putE e es := by unfold outE; rw [List.take_length]; simp
    refine ⟨fun q => ?_, fun q => ?_⟩
    · intro o7 ho7
      subst q
      refine hu.append (sub_fresh ho7) (by simp) (by simp; omega) fun v' H' H'' ho' hs' => ?_
      have hlow := all_low (okE_low hok)
      rw [List.take_length] at hlow
      refine Ret.shr (h _ _ ?_) rfl hs'
      unfold putE
      rw [hlow.1, hlow.2, List.append_nil, List.map_append]
      unfold outE at ho'
      rw [List.take_length] at ho'
      simpa using ho'
    · subst q
      rw [hfin] at hu
      exact Ret.of (h _ _ hu)
end Go.Proofs.YtohicpepcjgnaaaGreat
/-
Contracts: the reference's graph without a link.
-/
namespace Go.Proofs.YtohicpepcjgnaaaGreat
open Go Go.Abs Go.Proofs

def cutE (x y : Int) (es : List TEdge) : List TEdge := dropE y x (dropE x y es)
theorem cut_filter (x y : Int) (es : List TEdge) : cutE x y es = es.filter fun e => !isKey x y e && !isKey y x e := by
  unfold cutE dropE
  rw [List.filter_filter]
  congr 1
  funext f
  exact Bool.and_comm _ _
def inCut (x y : Int) (e : TEdge) : Bool := !isKey x y e && !isKey y x e
theorem cut_yes {x y : Int} {es : List TEdge} {i : Nat} (hi : i < es.length) (h : inCut x y es[i] = true) : cutE x y (es.take (i + 1)) = cutE x y (es.take i) ++ [es[i]] := by
  rw [cut_filter, cut_filter, List.take_succ_eq_append_getElem hi, List.filter_append]
  unfold inCut at h
  simp [h]
theorem cut_no {x y : Int} {es : List TEdge} {i : Nat} (hi : i < es.length) (h : inCut x y es[i] = false) : cutE x y (es.take (i + 1)) = cutE x y (es.take i) := by
  rw [cut_filter, cut_filter, List.take_succ_eq_append_getElem hi, List.filter_append]
  unfold inCut at h
  simp [h]
theorem cut_le (x y : Int) (es : List TEdge) : (cutE x y es).length ≤ es.length := by
  rw [cut_filter]
  exact List.length_filter_le ..
def InvWo (r : List V) (n x y : Int) (es : List TEdge) (H : Heap) (m : Nat) (ys : List V) (Hc : Heap) : Prop :=
  ∃ (i : Nat) (u : V), i ≤ es.length ∧ ys = [.box r, .box [.int .i64 0, .nils], .box [.int .i64 n, u], .int .i64 (i : Nat)] ∧ m = es.length - i ∧ Held H 3 ((cutE x y (es.take i)).map enEdge) u Hc
def JW1 (b : Bool) (H : Heap) (ys : List V) (Hc : Heap) : Prop := ys = [.bool b] ∧ Hc = H
set_option maxHeartbeats 2000000 in
theorem C_s_Without {n x y : Int} {es : List TEdge} {v : V} {b : Bool} {H : Heap} {K : V → Heap → Prop} (hv : Rb b H 3 v (es.map enEdge)) (hg : graphOk n es)
    (hy : (cutE x y es).length ≠ es.length → ∀ u H', Held H 3 ((cutE x y es).map enEdge) u H' → K (.tup [.agg [.int .i64 n, u], .bool true]) H')
    (hn : (cutE x y es).length = es.length → ∀ u H', Held H 3 (es.map enEdge) u H' → K (.tup [.agg [.int .i64 n, u], .bool false]) H') : ACalls P n_s_Without [.agg [.int .i64 n, v], .int .i64 x, .int .i64 y] H K := by
  have hc := hv.1.cell
  have k60 := hg.2.1
  apply W_s_Without
  unfold F_s_Without
  simp [hc, stz_eq, putCells, fillZ]
  refine ⟨InvWo [.int .i64 n, v] n x y es H, ⟨es.length, Shr.of ⟨0, .nils, by omega, rfl, by omega, by simpa [cutE, dropE] using Held.nil⟩⟩, ?_⟩
  rintro m ys Hc ⟨i, u, hi, rfl, rfl, hu⟩
  have cu := hu.cell
  simp [hc, hv.1.len]
  refine ⟨fun hlt => ?_, fun hge => ?_⟩
  · have hgd : (es.map enEdge).getD i [] = enEdge es[i] := by simp [hlt]
    refine (hv.1.mono hu.sub).idx (by omega) (by simpa using hlt) fun p hpp => ?_
    simp only [Int.toNat_natCast, hgd] at hpp
    rw [hpp.ld]
    simp [stz_eq, putCells]
    refine ⟨JW1 (inCut x y es[i]) Hc, ?_, ?_⟩
    · have key : ∀ c : Bool, inCut x y es[i] = c → Shr (JW1 (inCut x y es[i]) Hc [V.bool c]) Hc := fun c hcc => Shr.of ⟨by rw [hcc], rfl⟩
      unfold inCut isKey at key
      refine ⟨fun q1 => ⟨fun q2 => ⟨fun q3 => key _ ?_, fun q3 => key _ ?_⟩, fun q2 => key _ ?_⟩, fun q1 => ⟨fun q3 => key _ ?_, fun q3 => key _ ?_⟩⟩
      · simp [q2, q3]
      · simp [q2, q3]
      · simp [q1, q2]
      · simp [q3]
        intro _
        left
        omega
      · simp [q1, q3]
    · rintro ys Hd ⟨rfl, rfl⟩
      simp [bsl_one, cu]
      rw [i64_in (n := (i : Int) + 1) (by omega) (by omega)]
      refine ⟨fun q => ?_, fun q => ?_⟩
      · intro o7 ho7
        have hle := cut_le x y (es.take i)
        simp at hle
        refine hu.append (sub_fresh ho7) (by simp) (by simp; omega) fun v' H' H'' ho' hs' => ?_
        have cv := ho'.cell
        simp [stz_eq, putCells, cv]
        refine ⟨es.length - (i + 1), by omega, H'', hs', i + 1, v', by omega, by simp, rfl, ?_⟩
        rw [cut_yes hlt q, List.map_append]
        exact ho'
      · refine ⟨es.length - (i + 1), by omega, Shr.of ⟨i + 1, u, by omega, by simp, rfl, ?_⟩⟩
        rw [cut_no hlt q]
        exact hu
  · have : i = es.length := by omega
    subst this
    rw [List.take_length] at hu
    refine C_s_GraphOk (hv.1.mono hu.sub) ?_
    have hwd : ∀ r ∈ (cutE x y es).map enEdge, r.length = 3 := fun r hr => by
      obtain ⟨f, _, rfl⟩ := List.mem_map.1 hr
      rfl
    simp [hg, (hu.sl hwd).1.len]
    refine ⟨fun q => ?_, fun q => ?_⟩
    · refine C_s_l03Copy (hv.mono hu.sub) (by omega) fun u2 H3 h3 => ?_
      have c3 := h3.cell
      simp [stz_eq, putCells, c3]
      obtain ⟨Hy, y1, y2⟩ := h3.shrink hu.sub
      exact Ret.shr (hn (by omega) _ _ y1) rfl y2
    · simp [stz_eq, putCells, cu]
      exact Ret.of (hy (by omega) _ _ hu)
end Go.Proofs.YtohicpepcjgnaaaGreat
/-
Contracts: a node's own advertisement is made, installed and sent.
-/
namespace Go.Proofs.YtohicpepcjgnaaaGreat
open Go Go.Abs Go.Proofs

/-- The advertisement as it grows. -/
abbrev annRow (x s : Int) (l v : V) : List V := [.int .i64 x, .int .i64 s, .int .i64 0, l, v]
def JA1 (x s : Int) (v : V) (H : Heap) (ys : List V) (Hc : Heap) : Prop := ys = [.box (annRow x s .nils v)] ∧ Hc = H
def InvAi (x s : Int) (v : V) (es : List TEdge) (H : Heap) (m : Nat) (ys : List V) (Hc : Heap) : Prop :=
  ∃ (i : Nat) (u : V), i ≤ es.length ∧ ys = [.box (annRow x s u v), .int .i64 (i : Nat)] ∧ m = es.length - i ∧ Held H 2 ((linksOf x (es.take i)).map enLink) u Hc
theorem es_rd {c : Bool} {H0 H : Heap} {o : Nat} {a : TNet} {e d w : V} (h : NB c H0 o a e d w H) : Rd H 3 e (a.up.es.map enEdge) := h.rows.1
end Go.Proofs.YtohicpepcjgnaaaGreat
/-
Contracts: Announce, of both sides.
-/
namespace Go.Proofs.YtohicpepcjgnaaaGreat
open Go Go.Abs Go.Proofs

/-- The net is copied and handed out. -/
theorem own_end {t : Bool} {a : TNet} {vs : List V} {H H2 : Heap} {K : V → Heap → Prop} (hv : (netT false).rd H a vs) (hl : bNet a) (hs : Abs.sub H H2) (h : ∀ us H', Dp (netT false) H a us H' → K (.tup [.agg us, .bool t]) H') :
    ACalls P n_i_ownNet [.agg vs] H2 fun v12 H13 =>
      bnd (stz 5 [(.int .i64 0), .nils, .nils, .nils, (.int .i64 0)] 0 v12) fun c14 =>
      bnd (if 5 ≤ c14.length then some (V.agg (List.take 5 c14)) else none) fun t15 =>
      Ret K (.tup [t15, (.bool t)]) H13 := by
  refine C_i_ownNet (c := false) ((netT false).mono hv hs) hl fun us H3 hus => ?_
  obtain ⟨Hy, y1, y2⟩ := hus.shrink hs
  obtain ⟨e6, d6, w6, _, _, rfl, p1, p2, p3⟩ := net_dp hus
  have c6 := And.intro p1.cell (And.intro (dpS_cell p2) (dpS_cell p3))
  simp [stz_eq, putCells, c6]
  exact Ret.shr (h _ _ y1) rfl y2
theorem copy_end {b c t : Bool} {a : TNet} {vs : List V} {H H2 : Heap} {K : V → Heap → Prop} (hv : (netT b).rd H a vs) (hl : bNet a) (hs : Abs.sub H H2) (h : ∀ us H', Dp (netT c) H a us H' → K (.tup [.agg us, .bool t]) H') :
    ACalls P n_s_l08Copy [.agg vs] H2 fun v12 H13 =>
      bnd (stz 5 [(.int .i64 0), .nils, .nils, .nils, (.int .i64 0)] 0 v12) fun c14 =>
      bnd (if 5 ≤ c14.length then some (V.agg (List.take 5 c14)) else none) fun t15 =>
      Ret K (.tup [t15, (.bool t)]) H13 := by
  refine C_s_l08Copy (c := c) ((netT b).mono hv hs) hl fun us H3 hus => ?_
  obtain ⟨Hy, y1, y2⟩ := hus.shrink hs
  obtain ⟨e6, d6, w6, _, _, rfl, p1, p2, p3⟩ := net_dp hus
  have c6 := And.intro p1.cell (And.intro (dpS_cell p2) (dpS_cell p3))
  simp [stz_eq, putCells, c6]
  exact Ret.shr (h _ _ y1) rfl y2
abbrev zrow : List V := [.int .i64 0, .nils, .nils, .nils, .int .i64 0]
def JA2 (r : List V) (x s : Int) (v : V) (H : Heap) (ys : List V) (Hc : Heap) : Prop := ys = [.box r, .box zrow, .box (annRow x s .nils v)] ∧ Hc = H
def InvAs (r : List V) (x s : Int) (v : V) (es : List TEdge) (H : Heap) (m : Nat) (ys : List V) (Hc : Heap) : Prop :=
  ∃ (i : Nat) (u : V), i ≤ es.length ∧ ys = [.box r, .box zrow, .box (annRow x s u v), .int .i64 (i : Nat)] ∧ m = es.length - i ∧ Held H 2 ((linksOf x (es.take i)).map enLink) u Hc
set_option maxHeartbeats 4000000 in
theorem C_s_Announce {b c : Bool} {a : TNet} {vs : List V} {x : Int} {H : Heap} {K : V → Heap → Prop} (hv : (netT b).rd H a vs) (hl : bNet a)
    (h : ∀ us H', Dp (netT c) H (announceR a x).1 us H' → K (.tup [.agg us, .bool (announceR a x).2]) H') : ACalls P n_s_Announce [.agg vs, .int .i64 x] H K := by
  have hv' := hv
  obtain ⟨e0, d0, w0, rfl, g1, g2, g3⟩ := hv
  have hc := net_cell g1 g2 g3
  apply W_s_Announce
  unfold F_s_Announce
  simp [hc]
  refine C_s_NetOk hv' hl ?_
  simp
  unfold announceR at h
  have no : ¬ (netOk a ∧ (0 ≤ x ∧ x < a.up.n) ∧ lsaOk (ownL a x)) → ∀ us H', Dp (netT c) H a us H' → K (.tup [.agg us, .bool false]) H' := fun q => by
    rw [if_neg q] at h
    exact h
  refine ⟨fun q => copy_end hv' hl (Abs.sub_refl _) (no fun hh => q hh.1), fun hok => ?_⟩
  refine C_s_l03Node g1.1 ⟨hok.1.1.1, by have := hok.2.1; omega⟩ ?_
  simp
  refine ⟨fun q2 => copy_end hv' hl (Abs.sub_refl _) (no fun hh => by have := hh.2.1; omega), fun q2 q3 => ?_⟩
  have hx : 0 ≤ x ∧ x < a.up.n := ⟨q2, q3⟩
  have hn6 := hok.2.1
  have k60 : a.up.es.length ≤ 60 := hok.1.2.1
  have hiff := ownL_ok hok hx
  obtain ⟨hr1, hdb1, hdo1⟩ := db_at hok hx
  obtain ⟨sq, hsq⟩ : ∃ sq, sq = nextSeq (a.dbs.getD x.toNat []) x := ⟨_, rfl⟩
  have hown : ownL a x = ⟨x, sq, 0, linksOf x a.up.es, [(256 * x, 8, 1)]⟩ := by rw [hsq]; rfl
  rw [← hsq] at hiff
  rw [hdb1] at hsq
  simp [fillZ, bsl_one]
  rw [i64_in (n := 256 * x) (by omega) (by omega)]
  intro o5 ho5
  have hs5 : Abs.sub H (upd H o5 ⟨3, [[.int .i64 (256 * x), .int .i64 8, .int .i64 1]]⟩) := sub_fresh ho5
  have hst : Held H 3 ([((256 * x, 8, 1) : TStub)].map enStub) (.slice o5 0 1 (some 1)) (upd H o5 ⟨3, [[.int .i64 (256 * x), .int .i64 8, .int .i64 1]]⟩) := Held.full ho5 rfl
  simp [stz_eq, putCells]
  generalize upd H o5 ⟨3, [[.int .i64 (256 * x), .int .i64 8, .int .i64 1]]⟩ = H5 at *
  refine ⟨JA2 (netRow a e0 d0 w0) x sq (.slice o5 0 1 (some 1)) H5, ?_, ?_⟩
  · refine rdS_at g2 hs5 hx.1 hr1 fun p row hp hrow => ?_
    obtain ⟨vd, rws, rfl, hrd, hall⟩ := id hrow
    rw [hp.ld]
    have cvd := rdS_cell hrow
    simp [cvd]
    refine C_s_FindLsa (c := c) ((dbT b).mono hrow hs5) (db_small hdo1) fun us H6 hus6 => ?_
    have hus0 := hus6
    obtain ⟨lq, sq', rfl, u1, u2⟩ := hus0.rd
    have hqc := lsa_cell u1 u2
    unfold nextSeq at hsq
    simp [aExtract, stz_eq, putCells, hqc]
    have hsub5 : Abs.sub H5 H6 := hus6.sub
    refine ⟨fun q => ?_, fun q => ?_⟩
    · rw [if_pos q] at hsq
      have hseq := (findR_ok hdo1 q).1.2.1
      rw [i64_in (n := (findR a.dbs[x.toNat] x).1.seq + 1) (by omega) (by omega)]
      exact ⟨H5, hsub5, by rw [hsq], rfl⟩
    · rw [if_neg (by simp [q])] at hsq
      exact ⟨H5, hsub5, by rw [hsq], rfl⟩
  · rintro ys Hc ⟨rfl, rfl⟩
    refine ⟨InvAs (netRow a e0 d0 w0) x sq (.slice o5 0 1 (some 1)) a.up.es Hc, ⟨a.up.es.length, Shr.of ⟨0, .nils, by omega, rfl, by omega, by simpa [linksOf] using Held.nil⟩⟩, ?_⟩
    rintro m ys Hd ⟨i, u, hi, rfl, rfl, hu⟩
    have cu := hu.cell
    have hsd : Abs.sub H Hd := sub_trans hs5 hu.sub
    have hre := g1.1.mono hsd
    simp [hc, hre.len]
    refine ⟨fun hlt => ?_, fun hge => ?_⟩
    · have hgd : (a.up.es.map enEdge).getD i [] = enEdge a.up.es[i] := by simp [hlt]
      refine hre.idx (by omega) (by simpa using hlt) fun p hp => hp.fld fun q hq => ?_
      simp only [Int.toNat_natCast, hgd] at hq
      rw [hq.ld]
      simp
      rw [i64_in (n := (i : Int) + 1) (by omega) (by omega)]
      refine ⟨fun q => ?_, fun q => ?_⟩
      · refine hre.idx (by omega) (by simpa using hlt) fun p hp => hp.fld fun q5 hq => ?_
        simp only [Int.toNat_natCast, hgd] at hq
        rw [hq.ld]
        simp
        refine hre.idx (by omega) (by simpa using hlt) fun p hp => hp.fld fun q6 hq => ?_
        simp only [Int.toNat_natCast, hgd] at hq
        rw [hq.ld]
        simp [cu, bsl_one]
        intro o7 ho7
        have hll := links_le x (a.up.es.take i)
        simp at hll
        refine hu.append (sub_fresh ho7) (by simp) (by simp; omega) fun v' H' H'' ho' hs' => ?_
        have cv := ho'.cell
        simp [stz_eq, putCells, cv]
        refine ⟨a.up.es.length - (i + 1), by omega, H'', hs', i + 1, v', by omega, by simp, rfl, ?_⟩
        rw [links_yes hlt q, List.map_append]
        exact ho'
      · refine ⟨a.up.es.length - (i + 1), by omega, Shr.of ⟨i + 1, u, by omega, by simp, rfl, ?_⟩⟩
        rw [links_no hlt q]
        exact hu
    · have : i = a.up.es.length := by omega
      subst this
      rw [List.take_length] at hu
      obtain ⟨H1', r1, r2⟩ := Held.swap hst hu
      have hdp : Dp (lsaT c) H (ownL a x) (annRow x sq u (.slice o5 0 1 (some 1))) Hd := by
        have := Dp.lsa (b := c) (a := ownL a x) (l := u) (s := .slice o5 0 1 (some 1)) (by rw [hown]; exact r1) (by rw [hown]; exact r2)
        rw [hown] at this
        rw [hown]
        exact this
      have hl16 : (ownL a x).links.length ≤ 1048576 ∧ (ownL a x).stubs.length ≤ 1048576 := by
        have := links_le x a.up.es
        rw [hown]
        simp
        omega
      refine C_s_LsaOk (b := c) hdp.rd ?_
      simp
      refine ⟨fun q => copy_end hv' hl hsd (no fun hh => q hh.2.2), fun hlok => ?_⟩
      rw [if_pos ⟨hok, hx, hlok⟩] at h
      refine C_s_l08Copy (c := c) ((netT b).mono hv' hsd) hl fun us H6 hus => ?_
      have hus' := hus
      obtain ⟨e, d, w, H1, H2, rfl, h1, h2, h3⟩ := net_dp hus
      have ce := h1.cell
      have cd := dpS_cell h2
      have cw := dpS_cell h3
      intro o ho
      rw [aSt_at (upd_eq H6 o _)]
      simp [stz_eq, putCells, ce, cd, cw, aField_box]
      have nb := NB.of hus' ho
      generalize upd H6 o ⟨5, [netRow a e d w]⟩ = Hn at *
      obtain ⟨od, cap, Yw, rws, rfl, hrl, hdb, hsy, hbk⟩ := nb.elem hr1
      refine ⟨Hn, Abs.sub_refl _, ?_⟩
      simp [aLd_at nb.box]
      rw [hdb.pt (Abs.sub_refl _) hx.1 hr1]
      obtain ⟨v1, hod, hrr, hdpd⟩ := hdb
      have c1 := dpS_cell hdpd
      have hbod : Hn od = some ⟨1, rws.set x.toNat [v1]⟩ := hdpd.sub _ _ (upd_eq _ _ _)
      simp [row_ld hbod hrr, c1]
      refine C_s_Install (b := c) (b' := c) (c := c) hdpd.rd ((lsaT c).mono hdp.rd nb.sub) (db_small hdo1) fun ui H4 hui => ⟨hui.sub, ?_⟩
      have cui := dpS_cell hui
      have hok2 : netOk ⟨a.up, a.dbs.set x.toNat (installR a.dbs[x.toNat] (ownL a x)).1, a.wires, a.lost⟩ := netOk_db hok (install_ok hdo1)
      simp [aExtract]
      refine ⟨noHeap, none_sub _, ?_⟩
      have hbod4 := hui.sub _ _ hbod
      obtain ⟨H4', hu2, hs4⟩ := hui.shrink hdpd.sub
      obtain ⟨q5, q6⟩ := DB.put (c := c) (r := x.toNat) hod hrr hu2 hs4
      have nb2 := hbk _ _ q5
      rw [row_sta hbod4 hrr cui]
      simp only [bnd_some]
      refine ⟨none_sub _, ?_⟩
      obtain ⟨Z1, Z2, e5, d5, nw5⟩ := nb2.split
      have k400 := hok2.2.2.2.2.1
      have klost := hok2.2.2.2.2.2.1
      have hre2 : Rb false Z2 3 e (a.up.es.map enEdge) := (e5.rb fun r hr => by
        obtain ⟨x, _, rfl⟩ := List.mem_map.1 hr
        rfl).mono d5.sub
      refine C_s_l08Spread (b := c) (l := ownL a x) nw5 q6 hre2 ((lsaT c).mono hdp.rd (sub_trans e5.sub d5.sub)) hl16 k400 klost (by simp only; omega) fun H7 Hn7 w5 w6 => ?_
      obtain ⟨w7, nb7⟩ := NB.sends spread_fits e5 d5 w5
      have hnm : announceN a x = spreadN ⟨a.up, a.dbs.set x.toNat (installR a.dbs[x.toNat] (ownL a x)).1, a.wires, a.lost⟩ x (-1) (ownL a x) := by
        unfold announceN
        rw [hdb1]
      rw [← hnm] at nb7
      exact net_end hsd nb7 w6 h
end Go.Proofs.YtohicpepcjgnaaaGreat
/-
Contracts: a link of a net is set, by the reference.
-/
namespace Go.Proofs.YtohicpepcjgnaaaGreat
open Go Go.Abs Go.Proofs

theorem announce_yes {a : TNet} {x : Int} (h : netOk a) (hx : 0 ≤ x ∧ x < a.up.n) (k : lsaOk (ownL a x)) : announceR a x = (announceN a x, true) := by
  unfold announceR
  rw [if_pos ⟨h, hx, k⟩]
theorem announce_no {a : TNet} {x : Int} (k : ¬ lsaOk (ownL a x)) : announceR a x = (a, false) := by
  unfold announceR
  rw [if_neg fun h => k h.2.2]
theorem Fits.of_tell (a : TNet) (x y : Int) : Fits a (tellN a x y) := tell_fits a x y
def JSw (x y : Int) (H : Heap) (ys : List V) (Hc : Heap) : Prop := ys = [.int .i64 x, .int .i64 y] ∧ Hc = H
set_option maxHeartbeats 4000000 in
theorem C_s_SetLink {b c : Bool} {a : TNet} {vs : List V} {p q t : Int} {H : Heap} {K : V → Heap → Prop} (hv : (netT b).rd H a vs) (hl : bNet a)
    (h : ∀ us H', Dp (netT c) H (setR a p q t).1 us H' → K (.tup [.agg us, .bool (setR a p q t).2]) H') : ACalls P n_s_SetLink [.agg vs, .int .i64 p, .int .i64 q, .int .i64 t] H K := by
  have hv' := hv
  obtain ⟨e0, d0, w0, rfl, g1, g2, g3⟩ := hv
  have hc := net_cell g1 g2 g3
  apply W_s_SetLink
  unfold F_s_SetLink
  simp [hc]
  refine C_s_NetOk hv' hl ?_
  simp
  unfold setR at h
  have no : ¬ (goodS a p q t ∧ setOk a (min p q) (max p q) t) → ∀ us H', Dp (netT c) H a us H' → K (.tup [.agg us, .bool false]) H' := fun q => by
    rw [if_neg q] at h
    exact h
  refine ⟨fun r => copy_end hv' hl (Abs.sub_refl _) (no fun hh => r hh.1.1), fun hok => ?_⟩
  have hnn : 1 ≤ a.up.n ∧ a.up.n ≤ 10 := hok.1.1
  refine C_s_l03Node g1.1 hnn ?_
  simp
  refine ⟨fun r => copy_end hv' hl (Abs.sub_refl _) (no fun hh => by have := hh.1.2.1; omega), fun p1 p2 => ?_⟩
  refine C_s_l03Node g1.1 hnn ?_
  simp
  refine ⟨fun r => copy_end hv' hl (Abs.sub_refl _) (no fun hh => by have := hh.1.2.2.1; omega), fun q1 q2 => ?_⟩
  refine ⟨fun r => copy_end hv' hl (Abs.sub_refl _) (no fun hh => hh.1.2.2.2.1 r), fun hpq => ?_⟩
  refine C_s_l01In ?_
  simp
  refine ⟨fun r => copy_end hv' hl (Abs.sub_refl _) (no fun hh => by have := hh.1.2.2.2.2.1; omega), fun t1 t2 => ?_⟩
  have m1 : 0 ≤ min p q ∧ min p q < a.up.n := by omega
  have m2 : 0 ≤ max p q ∧ max p q < a.up.n := by omega
  have m3 : min p q ≠ max p q := by omega
  have hfar : cost a.up.n a.up.es p q = 1000000 ↔ cost a.up.n a.up.es (min p q) (max p q) = 1000000 := by
    by_cases hle : p ≤ q
    · rw [Int.min_eq_left hle, Int.max_eq_right hle]
    · rw [Int.min_eq_right (by omega), Int.max_eq_left (by omega)]
      exact far_swap hok.1 hok.2.2.1 hpq
  have hgood : goodS a p q t ↔ ¬ (t = 0 ∧ cost a.up.n a.up.es (min p q) (max p q) = 1000000) := by
    unfold goodS
    rw [hfar]
    exact ⟨fun hh => hh.2.2.2.2.2, fun hh => ⟨hok, ⟨p1, p2⟩, ⟨q1, q2⟩, hpq, ⟨t1, t2⟩, hh⟩⟩
  have yes : (¬ (t = 0 ∧ cost a.up.n a.up.es (min p q) (max p q) = 1000000)) → setOk a (min p q) (max p q) t → ∀ us H', Dp (netT c) H (setN a (min p q) (max p q) t) us H' → K (.tup [.agg us, .bool true]) H' := fun u1 u2 => by
    rw [if_pos ⟨hgood.2 u1, u2⟩] at h
    exact h
  have no : ¬ ((¬ (t = 0 ∧ cost a.up.n a.up.es (min p q) (max p q) = 1000000)) ∧ setOk a (min p q) (max p q) t) → ∀ us H', Dp (netT c) H a us H' → K (.tup [.agg us, .bool false]) H' := fun u => by
    rw [if_neg fun hh => u ⟨hgood.1 hh.1, hh.2⟩] at h
    exact h
  clear h
  refine ⟨JSw (min p q) (max p q) H, ?_, ?_⟩
  · refine ⟨fun r => Shr.of ⟨?_, rfl⟩, fun r => Shr.of ⟨?_, rfl⟩⟩
    · rw [Int.min_eq_right (by omega), Int.max_eq_left (by omega)]
    · rw [Int.min_eq_left (by omega), Int.max_eq_right (by omega)]
  rintro ys Hc ⟨rfl, rfl⟩
  have hokA := netOk_at (c := t) hok m1 m2 m3 ⟨t1, t2⟩
  generalize min p q = x at *
  generalize max p q = y at *
  clear hfar hgood
  simp
  refine C_s_l08Copy (c := c) hv' hl fun us H3 hus => ?_
  have hus' := hus
  obtain ⟨e, d, w, H1, H2, rfl, h1, h2, h3⟩ := net_dp hus
  have ce := h1.cell
  have cd := dpS_cell h2
  have cw := dpS_cell h3
  simp [stz_eq, putCells, ce, cd, cw]
  have hes := (graph_iff.1 hok.1).2.2.2
  refine ⟨fun c0 => ?_, fun c0 => ?_⟩
  · refine C_s_Without (x := x) (y := y) (g1.mono hus'.sub) hok.1 (fun hne u Hx hu => ?_) (fun heq u Hx hu => ?_)
    rotate_left
    · have cu := hu.cell
      simp [aExtract, stz_eq, putCells, cu, ce, cd, cw]
      have hno := no fun hh => hh.1 ⟨c0, (cut_all hok.1 hok.2.2.1 m3).1 heq⟩
      exact Ret.shr (hno _ _ hus') rfl hu.sub
    have cu := hu.cell
    simp [aExtract, stz_eq, putCells, cu, ce, cd, cw]
    have hfar : ¬ (t = 0 ∧ cost a.up.n a.up.es x y = 1000000) := fun hh => hne ((cut_all hok.1 hok.2.2.1 m3).2 hh.2)
    have hlk : linked x y t a.up.es = cutE x y a.up.es := by unfold linked cutE; rw [if_pos c0]
    have hwd : ∀ r ∈ (linked x y t a.up.es).map enEdge, r.length = 3 := fun r hr => by
      obtain ⟨f, _, rfl⟩ := List.mem_map.1 hr
      rfl
    rw [← hlk] at hu
    have hsx : Abs.sub Hc Hx := sub_trans hus'.sub hu.sub
    have hrd : (netT c).rd Hx (atN a x y t) [.int .i64 a.up.n, u, d, w, .int .i64 a.lost] := ⟨u, d, w, rfl, (hu.rb hwd).any c, (dbsT c).mono h2.rd (sub_trans h3.sub hu.sub), (wiresT c).mono h3.rd hu.sub⟩
    have no : ¬ setOk a x y t → ∀ us H', Dp (netT c) Hc a us H' → K (.tup [.agg us, .bool false]) H' := fun u => no fun hh => u hh.2
    refine C_s_Announce (b := c) (c := c) hrd (small_sz (small_of hokA)) fun us1 H4 hus1 => ?_
    by_cases k1 : lsaOk (ownL (atN a x y t) x)
    rotate_left
    · rw [announce_no k1] at hus1 ⊢
      have hd1 := hus1
      obtain ⟨e1, d1, w1, _, _, rfl, f1, f2, f3⟩ := net_dp hus1
      have c1 := And.intro f1.cell (And.intro (dpS_cell f2) (dpS_cell f3))
      simp [aExtract, stz_eq, putCells, c1]
      refine C_s_Announce (b := c) (c := c) hd1.rd (small_sz (small_of hokA)) fun us2 H5 hus2 => ?_
      have hd2 := hus2
      obtain ⟨e2, d2, w2, _, _, rfl, f1, f2, f3⟩ := net_dp hus2
      have c2 := And.intro f1.cell (And.intro (dpS_cell f2) (dpS_cell f3))
      simp [aExtract]
      intro o ho
      rw [aSt_at (upd_eq H5 o _)]
      simp [stz_eq, putCells, c2]
      exact copy_end hv' hl (sub_trans hsx (sub_trans hd1.sub (sub_trans hd2.sub (sub_fresh ho)))) (no fun hh => k1 hh.1)
    rw [announce_yes hokA m1 k1] at hus1 ⊢
    have hok1 := netOk_announce hokA m1 k1
    have hup1 : (announceN (atN a x y t) x).up.n = a.up.n := by rw [up_announce]; rfl
    have hd1 := hus1
    obtain ⟨e1, d1, w1, _, _, rfl, f1, f2, f3⟩ := net_dp hus1
    have c1 := And.intro f1.cell (And.intro (dpS_cell f2) (dpS_cell f3))
    simp [aExtract, stz_eq, putCells, c1]
    refine C_s_Announce (b := c) (c := c) hd1.rd (small_sz (small_of hok1)) fun us2 H5 hus2 => ?_
    by_cases k2 : lsaOk (ownL (announceN (atN a x y t) x) y)
    rotate_left
    · rw [announce_no k2] at hus2 ⊢
      have hd2 := hus2
      obtain ⟨e2, d2, w2, _, _, rfl, f1, f2, f3⟩ := net_dp hus2
      have c2 := And.intro f1.cell (And.intro (dpS_cell f2) (dpS_cell f3))
      simp [aExtract]
      intro o ho
      rw [aSt_at (upd_eq H5 o _)]
      simp [stz_eq, putCells, c2]
      exact copy_end hv' hl (sub_trans hsx (sub_trans hd1.sub (sub_trans hd2.sub (sub_fresh ho)))) (no fun hh => k2 hh.2)
    have h := yes hfar ⟨k1, k2⟩
    rw [announce_yes hok1 (by rw [hup1]; exact m2) k2] at hus2 ⊢
    have hok2 := netOk_announce hok1 (by rw [hup1]; exact m2) k2
    have hup2 : (announceN (announceN (atN a x y t) x) y).up.n = a.up.n := by rw [up_announce, hup1]
    have hd2 : Dp (netT c) H4 (announceN (announceN (atN a x y t) x) y) us2 H5 := hus2
    obtain ⟨e2, d2, w2, _, _, rfl, f1, f2, f3⟩ := net_dp hus2
    have c2 := And.intro f1.cell (And.intro (dpS_cell f2) (dpS_cell f3))
    simp [aExtract]
    intro o ho
    rw [aSt_at (upd_eq H5 o _)]
    simp [stz_eq, putCells, c2]
    have nb := NB.of hd2 ho
    generalize upd H5 o ⟨5, [netRow (announceN (announceN (atN a x y t) x) y) e2 d2 w2]⟩ = Hn at *
    have hsy : Abs.sub Hc H4 := sub_trans hsx hd1.sub
    unfold setN telledN at h
    have hdl := hok2.2.2.2.1
    rw [hup2] at hdl
    generalize announceN (announceN (atN a x y t) x) y = A2 at *
    have hsm := small_of hok2
    obtain ⟨Z1, Z2, e5, d5, nw5⟩ := nb.split
    rw [if_neg (by omega)] at h
    simp [c0]
    exact net_end hsy nb (Abs.sub_refl _) h
  · have hpos : 0 < t := by omega
    have hwe : ∀ r ∈ a.up.es.map enEdge, r.length = 3 := fun r hr => by
      obtain ⟨f, _, rfl⟩ := List.mem_map.1 hr
      rfl
    have k60 : a.up.es.length ≤ 60 := hok.1.2.1
    refine C_s_l03Put (e := (x, y, t)) (es := a.up.es) (((h1.sl hwe).1.mono h2.sub).mono h3.sub) (by omega) hes fun u1 Hy hu1 => ?_
    have cu1 := hu1.cell
    simp [stz_eq, putCells, cu1, ce, cd, cw, fillZ]
    have hw1 : ∀ r ∈ (putE (x, y, t) a.up.es).map enEdge, r.length = 3 := fun r hr => by
      obtain ⟨f, _, rfl⟩ := List.mem_map.1 hr
      rfl
    have hp1 : (putE (x, y, t) a.up.es).length ≤ 1000 := by
      have := out_len (e := (x, y, t)) (es := a.up.es) (i := a.up.es.length) (d := true) (Nat.le_refl _)
      unfold outE at this
      rw [List.take_length] at this
      simp at this
      omega
    refine C_s_l03Put (e := (y, x, t)) (es := putE (x, y, t) a.up.es) (hu1.sl hw1).1 hp1 (pw_put hes) fun u Hx hu => ?_
    have cu := hu.cell
    simp [stz_eq, putCells, cu, cu1, ce, cd, cw, fillZ]
    have hfar : ¬ (t = 0 ∧ cost a.up.n a.up.es x y = 1000000) := fun hh => c0 hh.1
    have hlk : linked x y t a.up.es = putE (y, x, t) (putE (x, y, t) a.up.es) := by unfold linked; rw [if_neg c0]
    have hwd : ∀ r ∈ (linked x y t a.up.es).map enEdge, r.length = 3 := fun r hr => by
      obtain ⟨f, _, rfl⟩ := List.mem_map.1 hr
      rfl
    rw [← hlk] at hu
    have hsx : Abs.sub Hc Hx := sub_trans hus'.sub (sub_trans hu1.sub hu.sub)
    have hrd : (netT c).rd Hx (atN a x y t) [.int .i64 a.up.n, u, d, w, .int .i64 a.lost] := ⟨u, d, w, rfl, (hu.rb hwd).any c, (dbsT c).mono h2.rd (sub_trans h3.sub (sub_trans hu1.sub hu.sub)), (wiresT c).mono h3.rd (sub_trans hu1.sub hu.sub)⟩
    have no : ¬ setOk a x y t → ∀ us H', Dp (netT c) Hc a us H' → K (.tup [.agg us, .bool false]) H' := fun u => no fun hh => u hh.2
    refine C_s_Announce (b := c) (c := c) hrd (small_sz (small_of hokA)) fun us1 H4 hus1 => ?_
    by_cases k1 : lsaOk (ownL (atN a x y t) x)
    rotate_left
    · rw [announce_no k1] at hus1 ⊢
      have hd1 := hus1
      obtain ⟨e1, d1, w1, _, _, rfl, f1, f2, f3⟩ := net_dp hus1
      have c1 := And.intro f1.cell (And.intro (dpS_cell f2) (dpS_cell f3))
      simp [aExtract, stz_eq, putCells, c1]
      refine C_s_Announce (b := c) (c := c) hd1.rd (small_sz (small_of hokA)) fun us2 H5 hus2 => ?_
      have hd2 := hus2
      obtain ⟨e2, d2, w2, _, _, rfl, f1, f2, f3⟩ := net_dp hus2
      have c2 := And.intro f1.cell (And.intro (dpS_cell f2) (dpS_cell f3))
      simp [aExtract]
      intro o ho
      rw [aSt_at (upd_eq H5 o _)]
      simp [stz_eq, putCells, c2]
      exact copy_end hv' hl (sub_trans hsx (sub_trans hd1.sub (sub_trans hd2.sub (sub_fresh ho)))) (no fun hh => k1 hh.1)
    rw [announce_yes hokA m1 k1] at hus1 ⊢
    have hok1 := netOk_announce hokA m1 k1
    have hup1 : (announceN (atN a x y t) x).up.n = a.up.n := by rw [up_announce]; rfl
    have hd1 := hus1
    obtain ⟨e1, d1, w1, _, _, rfl, f1, f2, f3⟩ := net_dp hus1
    have c1 := And.intro f1.cell (And.intro (dpS_cell f2) (dpS_cell f3))
    simp [aExtract, stz_eq, putCells, c1]
    refine C_s_Announce (b := c) (c := c) hd1.rd (small_sz (small_of hok1)) fun us2 H5 hus2 => ?_
    by_cases k2 : lsaOk (ownL (announceN (atN a x y t) x) y)
    rotate_left
    · rw [announce_no k2] at hus2 ⊢
      have hd2 := hus2
      obtain ⟨e2, d2, w2, _, _, rfl, f1, f2, f3⟩ := net_dp hus2
      have c2 := And.intro f1.cell (And.intro (dpS_cell f2) (dpS_cell f3))
      simp [aExtract]
      intro o ho
      rw [aSt_at (upd_eq H5 o _)]
      simp [stz_eq, putCells, c2]
      exact copy_end hv' hl (sub_trans hsx (sub_trans hd1.sub (sub_trans hd2.sub (sub_fresh ho)))) (no fun hh => k2 hh.2)
    have h := yes hfar ⟨k1, k2⟩
    rw [announce_yes hok1 (by rw [hup1]; exact m2) k2] at hus2 ⊢
    have hok2 := netOk_announce hok1 (by rw [hup1]; exact m2) k2
    have hup2 : (announceN (announceN (atN a x y t) x) y).up.n = a.up.n := by rw [up_announce, hup1]
    have hd2 : Dp (netT c) H4 (announceN (announceN (atN a x y t) x) y) us2 H5 := hus2
    obtain ⟨e2, d2, w2, _, _, rfl, f1, f2, f3⟩ := net_dp hus2
    have c2 := And.intro f1.cell (And.intro (dpS_cell f2) (dpS_cell f3))
    simp [aExtract]
    intro o ho
    rw [aSt_at (upd_eq H5 o _)]
    simp [stz_eq, putCells, c2]
    have nb := NB.of hd2 ho
    generalize upd H5 o ⟨5, [netRow (announceN (announceN (atN a x y t) x) y) e2 d2 w2]⟩ = Hn at *
    have hsy : Abs.sub Hc H4 := sub_trans hsx hd1.sub
    unfold setN telledN at h
    have hdl := hok2.2.2.2.1
    rw [hup2] at hdl
    generalize announceN (announceN (atN a x y t) x) y = A2 at *
    have hsm := small_of hok2
    obtain ⟨Z1, Z2, e5, d5, nw5⟩ := nb.split
    rw [if_pos hpos] at h
    have hszd : ∀ db ∈ A2.dbs, szd db ≤ 1048576 := fun db hdb => by
      have := small_szd hsm db hdb
      omega
    refine ⟨fun _ => ?_, fun hh => absurd hpos (by omega)⟩
    refine C_s_l08Tell (x := x) (y := y) nw5 (Abs.sub_refl _) d5.rd ⟨m1.1, by omega⟩ hszd hsm.ws hsm.lost fun H6 Hn6 r1 r2 => ?_
    have hf := tell_fits A2 x y
    have hdbs2 := d5.rd
    rw [← hf.dbs] at hdbs2
    refine C_s_l08Tell (x := y) (y := x) r1 r2 hdbs2 ⟨m2.1, by rw [hf.dbs]; omega⟩ (by rw [hf.dbs]; exact hszd) (hf.wires hsm.ws) (hf.lost hsm.lost) fun H7 Hn7 r3 r4 => ?_
    obtain ⟨w7, nb7⟩ := NB.sends (hf.trans (tell_fits _ y x)) e5 d5 r3
    exact net_end hsy nb7 r4 h
end Go.Proofs.YtohicpepcjgnaaaGreat
/-
Contracts: an edge is put into one's own slice.
-/
namespace Go.Proofs.YtohicpepcjgnaaaGreat
open Go Go.Abs Go.Proofs

def InsRE (o n c : Nat) (final : List (List V)) (H : Heap) (v : V) (H' : Heap) : Prop :=
  (v = .slice o 0 (n + 1) (some c) ∧ ∃ ex', H' = upd H o ⟨3, final ++ ex'⟩) ∨ (∃ o', H o' = none ∧ v = .slice o' 0 (n + 1) none ∧ H' = upd H o' ⟨3, final⟩)
end Go.Proofs.YtohicpepcjgnaaaGreat
/-
Contracts: an edge of one's own graph is set or left out, in place.
-/
namespace Go.Proofs.YtohicpepcjgnaaaGreat
open Go Go.Abs Go.Proofs

theorem midE (s : Nat) (_ : s ≤ 1000) : aBinN .shr (.int .u64 (IntKind.u64.wrap (s : Int))) (.int .u64 1) = some (.int .u64 ((s / 2 : Nat) : Int)) := by
  have h1 : IntKind.u64.wrap (s : Int) = s := by
    unfold IntKind.wrap
    simp [IntKind.bits, IntKind.signed]
    omega
  rw [h1]
  have h2 : ((s : Int)).fdiv 2 = ((s / 2 : Nat) : Int) := by
    rw [Int.fdiv_eq_ediv_of_nonneg _ (by omega)]
    omega
  show some (V.int .u64 (((s : Int)).fdiv (2 ^ (min (1 : Int).toNat IntKind.u64.bits)))) = _
  have h3 : (2 : Int) ^ (min (1 : Int).toNat IntKind.u64.bits) = 2 := by decide
  rw [h3, h2]
def InvFx (x y : Int) (es : List TEdge) (H : Heap) (m : Nat) (ys : List V) (Hc : Heap) : Prop :=
  ∃ i : Nat, i ≤ es.length ∧ ys = [.int .i64 (i : Nat)] ∧ m = es.length - i ∧ Hc = H ∧ ∀ j, (h : j < es.length) → j < i → isKey x y es[j] = false
theorem drop_yes {x y : Int} {es : List TEdge} {i : Nat} (hi : i < es.length) (h : isKey x y es[i] = true) : dropE x y (es.take (i + 1)) = dropE x y (es.take i) := by
  unfold dropE
  rw [List.take_succ_eq_append_getElem hi, List.filter_append]
  simp [h]
theorem drop_no {x y : Int} {es : List TEdge} {i : Nat} (hi : i < es.length) (h : isKey x y es[i] = false) : dropE x y (es.take (i + 1)) = dropE x y (es.take i) ++ [es[i]] := by
  unfold dropE
  rw [List.take_succ_eq_append_getElem hi, List.filter_append]
  simp [h]
theorem drop_none {x y : Int} {es : List TEdge} {i : Nat} (hok : ∀ j, (h : j < es.length) → j < i → isKey x y es[j] = false) : dropE x y (es.take i) = es.take i := by
  unfold dropE
  rw [List.filter_eq_self]
  intro a ha
  obtain ⟨j, hj, rfl⟩ := List.mem_iff_getElem.1 ha
  simp at hj
  simp [hok j (by omega) (by omega)]
def InvFd (x y : Int) (es : List TEdge) (o c : Nat) (H : Heap) (m : Nat) (ys : List V) (Hc : Heap) : Prop :=
  ∃ (i j : Nat) (A : List (List V)), i ≤ j ∧ j ≤ es.length ∧ ys = [.int .i64 (i : Nat), .int .i64 (j : Nat)] ∧ m = es.length - j ∧ Hc = upd H o ⟨3, A⟩ ∧ A.length = c ∧ (∀ r ∈ A, r.length = 3) ∧
    A.take i = (dropE x y (es.take j)).map enEdge ∧ ∀ t, j ≤ t → (h : t < es.length) → A[t]? = some (enEdge es[t])
end Go.Proofs.YtohicpepcjgnaaaGreat
/-
Contracts: an edge of a graph is set.
-/
namespace Go.Proofs.YtohicpepcjgnaaaGreat
open Go Go.Abs Go.Proofs

theorem E_i_compareEdges : enterable P n_i_compareEdges = true := by kernel_rfl
def cmpE (a b : TEdge) : Int := if a.1 ≠ b.1 then a.1 - b.1 else a.2.1 - b.2.1
theorem cmpE_lt {a b : TEdge} : cmpE a b < 0 ↔ elt a b := by
  unfold cmpE elt
  split <;> omega
theorem C_cmpE {a b : TEdge} {H : Heap} {K : V → Heap → Prop} (ha : eOk 10 a) (hb : (0 ≤ b.1 ∧ b.1 < 10) ∧ 0 ≤ b.2.1 ∧ b.2.1 < 10) (h : K (.int .i64 (cmpE a b)) H) : ACalls P n_i_compareEdges [.agg (enEdge a), .agg (enEdge b)] H K := by
  unfold eOk at ha
  refine C_i_compareEdges ?_
  rw [i64_in (n := a.1 - b.1) (by omega) (by omega), i64_in (n := a.2.1 - b.2.1) (by omega) (by omega)]
  exact h
def InvBe (es : List TEdge) (e : TEdge) (H : Heap) (m : Nat) (ys : List V) (Hc : Heap) : Prop :=
  ∃ lo hi : Nat, lo ≤ hi ∧ hi ≤ es.length ∧ ys = [.int .i64 (lo : Nat), .int .i64 (hi : Nat)] ∧ m = hi - lo ∧ Hc = H ∧ (∀ j, (h : j < es.length) → j < lo → elt es[j] e) ∧ ∀ j, hi ≤ j → (h : j < es.length) → ¬ elt es[j] e
theorem lows_take {es : List TEdge} {e : TEdge} {i : Nat} (h3 : ∀ j, (h : j < es.length) → j < i → elt es[j] e) (h4 : ∀ j, i ≤ j → (h : j < es.length) → ¬ elt es[j] e) (hk : ∀ f ∈ es, ¬ (f.1 = e.1 ∧ f.2.1 = e.2.1)) : putE e es = putAt es i e := by
  have a1 : ∀ f ∈ es.take i, elt f e := fun f hf => by
    obtain ⟨j, hj, rfl⟩ := List.mem_iff_getElem.1 hf
    simp at hj
    rw [List.getElem_take]
    exact h3 j (by omega) (by omega)
  have a2 : ∀ f ∈ es.drop i, elt e f := fun f hf => by
    have hm := List.mem_of_mem_drop hf
    obtain ⟨j, hj, rfl⟩ := List.mem_iff_getElem.1 hf
    have q := hk _ hm
    rw [List.getElem_drop] at q ⊢
    have q2 := h4 (i + j) (by omega) (by simp at hj; omega)
    unfold elt at *
    omega
  have e1 : lows e es = es.take i := by
    have : lows e es = lows e (es.take i ++ es.drop i) := by rw [List.take_append_drop]
    rw [this]
    unfold lows
    rw [List.filter_append, List.filter_eq_self.2 (fun f hf => by simpa using a1 f hf), List.filter_eq_nil_iff.2 (fun f hf => by simpa using elt_asymm (a2 f hf)), List.append_nil]
  have e2 : highs e es = es.drop i := by
    have : highs e es = highs e (es.take i ++ es.drop i) := by rw [List.take_append_drop]
    rw [this]
    unfold highs
    rw [List.filter_append, List.filter_eq_nil_iff.2 (fun f hf => by simpa using elt_asymm (a1 f hf)), List.filter_eq_self.2 (fun f hf => by simpa using a2 f hf), List.nil_append]
  unfold putE
  rw [e1, e2]
def setE (x y c : Int) (es : List TEdge) : List TEdge := if 0 < c then putE (x, y, c) es else dropE x y es
end Go.Proofs.YtohicpepcjgnaaaGreat
/-
Contracts: a link of a net is set, in place.
-/
namespace Go.Proofs.YtohicpepcjgnaaaGreat
open Go Go.Abs Go.Proofs

theorem NB.rb {c : Bool} {H0 H : Heap} {o : Nat} {a : TNet} {e d w : V} (h : NB c H0 o a e d w H) : Rb false H 3 e (a.up.es.map enEdge) := by
  obtain ⟨H1, H2, q1, q2, q3⟩ := nb_parts h
  refine ((q1.rb fun r hr => ?_).mono q2.sub).mono q3.sub
  obtain ⟨x, _, rfl⟩ := List.mem_map.1 hr
  rfl
/-- The links of the net are other ones. -/
theorem NB.setUp {c : Bool} {H0 Hn Hb H2 : Heap} {o : Nat} {a : TNet} {e d w u : V} {es' : List TEdge} (h : NB c H0 o a e d w Hn) (hs : Abs.sub Hn Hb) (hu : Held Hb 3 (es'.map enEdge) u H2) :
    ∃ B Hn', Abs.sub H0 B ∧ NB c B o ⟨⟨a.up.n, es'⟩, a.dbs, a.wires, a.lost⟩ u d w Hn' ∧ Abs.sub Hn' (upd H2 o ⟨5, [netRow ⟨⟨a.up.n, es'⟩, a.dbs, a.wires, a.lost⟩ u d w]⟩) := by
  obtain ⟨H1, H2', q1, q2, q3⟩ := nb_parts h
  obtain ⟨Y1, rfl, hY1, p1⟩ := held_unbox q1 h.fresh
  obtain ⟨Y2, rfl, hY2, p2⟩ := dp_unbox q2 hY1
  obtain ⟨Hz, u1, u2⟩ := hu.shrink hs
  obtain ⟨Hm, k1, k2⟩ := Dp.heldUnder q3 u1
  obtain ⟨Y3, rfl, hY3, k3⟩ := held_unbox k1 hY2
  obtain ⟨Y4, k4, k5⟩ := Dp.heldUnder p2 k3
  have hY4 := sub_none k5.sub hY3
  refine ⟨Y1, upd Hz o ⟨5, [netRow ⟨⟨a.up.n, es'⟩, a.dbs, a.wires, a.lost⟩ u d w]⟩, p1.sub, ⟨hY1, ?_⟩, sub_upd2 u2⟩
  have k6 := dp_rebase (o := o) ⟨5, [netRow ⟨⟨a.up.n, es'⟩, a.dbs, a.wires, a.lost⟩ u d w]⟩ k2 (by rw [upd_eq]; simp)
  rw [upd_upd] at k6
  exact Dp.net (a := ⟨⟨a.up.n, es'⟩, a.dbs, a.wires, a.lost⟩) (held_box _ k4 hY4) (dp_box _ k5 hY3) k6
theorem setE_ok {n x y t : Int} {es : List TEdge} (hg : graphOk n es) (hn : n ≤ 6) (hx : 0 ≤ x ∧ x < n) (hy : 0 ≤ y ∧ y < n) (hne : x ≠ y) (ht : 0 ≤ t ∧ t ≤ 1000) : (∀ f ∈ setE x y t es, eOk 10 f) ∧ (setE x y t es).Pairwise elt ∧ (setE x y t es).length ≤ 60 := by
  have hg' := graph_iff.1 hg
  have h3 : ∀ f ∈ setE x y t es, eOk n f := fun f hf => by
    unfold setE at hf
    split at hf
    · rw [mem_put] at hf
      rcases hf with rfl | ⟨hf, _⟩
      · unfold eOk; simp only; omega
      · exact hg'.2.2.1 _ hf
    · exact hg'.2.2.1 _ (mem_drop.1 hf).1
  have h4 : (setE x y t es).Pairwise elt := by
    unfold setE
    split
    · exact pw_put hg'.2.2.2
    · exact pw_drop hg'.2.2.2
  exact ⟨fun f hf => (by have := h3 f hf; unfold eOk at *; omega), h4, edges_few h4 fun f hf => eOk_six hn (h3 f hf)⟩
theorem setE_two {x y t : Int} {es : List TEdge} (ht : 0 ≤ t) : setE y x t (setE x y t es) = linked x y t es := by
  unfold setE linked
  by_cases h : 0 < t
  · rw [if_pos h, if_pos h, if_neg (by omega)]
  · rw [if_neg h, if_neg h, if_pos (by omega)]
end Go.Proofs.YtohicpepcjgnaaaGreat
