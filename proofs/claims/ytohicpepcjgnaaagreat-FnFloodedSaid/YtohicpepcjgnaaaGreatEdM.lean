/-
Contracts: the reference's edges: put, left out.
-/
import Derived.Test.YtohicpepcjgnaaaGreatEdgeP
import Derived.Test.YtohicpepcjgnaaaGreatNtM
import Derived.Test.YtohicpepcjgnaaaGreatDelivD
import Derived.Test.YtohicpepcjgnaaaGreatAnnP
import Derived.Test.YtohicpepcjgnaaaGreatSetP
import Derived.Test.YtohicpepcjgnaaaGreatIns
import Derived.Test.YtohicpepcjgnaaaGreatDelivC
set_option linter.all false
namespace Go.Proofs.YtohicpepcjgnaaaGreat
open Go Go.Abs Go.Proofs

/-- What has been put together of the first i edges. -/
def outE (e : TEdge) (es : List TEdge) (i : Nat) (d : Bool) : List TEdge := if d then putE e (es.take i) else es.take i
def okE (e : TEdge) (es : List TEdge) (i : Nat) (d : Bool) : Prop := if d then ∃ j, ∃ h : j < es.length, j < i ∧ ¬ elt es[j] e else ∀ j, (h : j < es.length) → j < i → elt es[j] e
theorem all_low {e : TEdge} {es : List TEdge} (h : ∀ f ∈ es, elt f e) : lows e es = es ∧ highs e es = [] := by
  unfold lows highs
  exact ⟨List.filter_eq_self.2 fun f hf => by simpa using h f hf, List.filter_eq_nil_iff.2 fun f hf => by simpa using elt_asymm (h f hf)⟩
theorem okE_low {e : TEdge} {es : List TEdge} {i : Nat} (h : okE e es i false) : ∀ f ∈ es.take i, elt f e := fun f hf => by
  obtain ⟨j, hj, rfl⟩ := List.mem_iff_getElem.1 hf
  simp at hj
  rw [List.getElem_take]
  unfold okE at h
  simp at h
  exact h j (by omega) (by omega)
theorem put_snoc {e f : TEdge} {xs : List TEdge} (h : ¬ elt f e) : putE e (xs ++ [f]) = putE e xs ++ (if elt e f then [f] else []) := by
  unfold putE lows highs
  rw [List.filter_append, List.filter_append]
  by_cases q : elt e f <;> simp [h, q]
/-- One edge more, which stands behind e or at it. -/
theorem out_next {e : TEdge} {es : List TEdge} {i : Nat} {d : Bool} (hi : i < es.length) (hok : okE e es i d) (h : ¬ elt es[i] e) : outE e es (i + 1) true = (if d then outE e es i d else outE e es i d ++ [e]) ++ (if elt e es[i] then [es[i]] else []) := by
  unfold outE
  rw [List.take_succ_eq_append_getElem hi]
  simp only [if_true]
  rw [put_snoc h]
  cases d with
  | true => simp
  | false =>
    simp only [Bool.false_eq_true, if_false]
    have := all_low (okE_low hok)
    unfold putE
    rw [this.1, this.2]
    simp
theorem okE_next {e : TEdge} {es : List TEdge} {i : Nat} (hi : i < es.length) (h : ¬ elt es[i] e) : okE e es (i + 1) true := by
  unfold okE
  simp only [if_true]
  exact ⟨i, hi, by omega, h⟩
theorem okE_past {e : TEdge} {es : List TEdge} {i : Nat} (hp : es.Pairwise elt) (hi : i < es.length) (hok : okE e es i true) : elt e es[i] := by
  unfold okE at hok
  simp only [if_true] at hok
  obtain ⟨j, hj, hji, hn⟩ := hok
  have := List.pairwise_iff_getElem.1 hp j i hj hi hji
  unfold elt at *
  omega
theorem okE_keep {e : TEdge} {es : List TEdge} {i : Nat} (hi : i < es.length) (hok : okE e es i false) (h : elt es[i] e) : okE e es (i + 1) false ∧ outE e es (i + 1) false = outE e es i false ++ [es[i]] := by
  unfold okE outE at *
  simp only [Bool.false_eq_true, if_false] at *
  refine ⟨fun j hj hji => ?_, List.take_succ_eq_append_getElem hi⟩
  by_cases e : j = i
  · subst e; exact h
  · exact hok j hj (by omega)
def InvPt (e : TEdge) (es : List TEdge) (H : Heap) (m : Nat) (ys : List V) (Hc : Heap) : Prop :=
  ∃ (i : Nat) (d : Bool) (u : V), i ≤ es.length ∧ ys = [.box (enEdge e), u, .bool d, .int .i64 (i : Nat)] ∧ m = es.length - i ∧ okE e es i d ∧ (outE e es i d).length ≤ i + 1 ∧ Held H 3 ((outE e es i d).map enEdge) u Hc
def JP1 (e f : TEdge) (d : Bool) (H : Heap) (ys : List V) (Hc : Heap) : Prop := ys = [.bool (decide (d = false ∧ ¬ elt f e))] ∧ Hc = H
def JP2 (e f : TEdge) (out : List TEdge) (d : Bool) (H : Heap) (ys : List V) (Hc : Heap) : Prop :=
  ∃ u, ys = [u, .bool (d || decide (¬ elt f e))] ∧ Held H 3 ((if d = false ∧ ¬ elt f e then out ++ [e] else out).map enEdge) u Hc
theorem out_len {e : TEdge} {es : List TEdge} {i : Nat} {d : Bool} (hi : i ≤ es.length) : (outE e es i d).length ≤ i + 1 := by
  unfold outE
  split
  · unfold putE lows highs
    rw [List.length_append, List.length_append]
    have h : ∀ xs : List TEdge, (xs.filter fun f => decide (elt f e)).length + (xs.filter fun f => decide (elt e f)).length ≤ xs.length := fun xs => by
      induction xs with
      | nil => simp
      | cons a xs ih =>
        rw [List.filter_cons, List.filter_cons]
        by_cases q : elt a e
        · have := elt_asymm q
          simp [q, this]; omega
        · by_cases p : elt e a
          · simp [q, p]; omega
          · simp [q, p]; omega
    have := h (es.take i)
    simp at this ⊢
    omega
  · simp; omega
end Go.Proofs.YtohicpepcjgnaaaGreat
/-
Contracts: the reference's graph without a link.
-/
namespace Go.Proofs.YtohicpepcjgnaaaGreat
open Go Go.Abs Go.Proofs

def cutE (x y : Int) (es : List TEdge) : List TEdge := dropE y x (dropE x y es)
theorem cut_filter (x y : Int) (es : List TEdge) : cutE x y es = es.filter fun e => !isKey x y e && !isKey y x e := by
  unfold cutE dropE
  rw [List.filter_filter]
  congr 1
  funext f
  exact Bool.and_comm _ _
def inCut (x y : Int) (e : TEdge) : Bool := !isKey x y e && !isKey y x e
theorem cut_yes {x y : Int} {es : List TEdge} {i : Nat} (hi : i < es.length) (h : inCut x y es[i] = true) : cutE x y (es.take (i + 1)) = cutE x y (es.take i) ++ [es[i]] := by
  rw [cut_filter, cut_filter, List.take_succ_eq_append_getElem hi, List.filter_append]
  unfold inCut at h
  simp [h]
theorem cut_no {x y : Int} {es : List TEdge} {i : Nat} (hi : i < es.length) (h : inCut x y es[i] = false) : cutE x y (es.take (i + 1)) = cutE x y (es.take i) := by
  rw [cut_filter, cut_filter, List.take_succ_eq_append_getElem hi, List.filter_append]
  unfold inCut at h
  simp [h]
theorem cut_le (x y : Int) (es : List TEdge) : (cutE x y es).length ≤ es.length := by
  rw [cut_filter]
  exact List.length_filter_le ..
def InvWo (r : List V) (n x y : Int) (es : List TEdge) (H : Heap) (m : Nat) (ys : List V) (Hc : Heap) : Prop :=
  ∃ (i : Nat) (u : V), i ≤ es.length ∧ ys = [.box r, .box [.int .i64 0, .nils], .box [.int .i64 n, u], .int .i64 (i : Nat)] ∧ m = es.length - i ∧ Held H 3 ((cutE x y (es.take i)).map enEdge) u Hc
def JW1 (b : Bool) (H : Heap) (ys : List V) (Hc : Heap) : Prop := ys = [.bool b] ∧ Hc = H
end Go.Proofs.YtohicpepcjgnaaaGreat
/-
Contracts: a node's own advertisement is made, installed and sent.
-/
namespace Go.Proofs.YtohicpepcjgnaaaGreat
open Go Go.Abs Go.Proofs

/-- The advertisement as it grows. -/
abbrev annRow (x s : Int) (l v : V) : List V := [.int .i64 x, .int .i64 s, .int .i64 0, l, v]
def JA1 (x s : Int) (v : V) (H : Heap) (ys : List V) (Hc : Heap) : Prop := ys = [.box (annRow x s .nils v)] ∧ Hc = H
def InvAi (x s : Int) (v : V) (es : List TEdge) (H : Heap) (m : Nat) (ys : List V) (Hc : Heap) : Prop :=
  ∃ (i : Nat) (u : V), i ≤ es.length ∧ ys = [.box (annRow x s u v), .int .i64 (i : Nat)] ∧ m = es.length - i ∧ Held H 2 ((linksOf x (es.take i)).map enLink) u Hc
theorem es_rd {c : Bool} {H0 H : Heap} {o : Nat} {a : TNet} {e d w : V} (h : NB c H0 o a e d w H) : Rd H 3 e (a.up.es.map enEdge) := h.rows.1
set_option maxHeartbeats 4000000 in
theorem C_p_i_Net_announce {a : TNet} {x : Int} {o : Nat} {e d w : V} {H0 Hn H : Heap} {K : V → Heap → Prop} (hn : NB false H0 o a e d w Hn) (hs : Abs.sub Hn H) (hok : netOk a) (hx : 0 ≤ x ∧ x < a.up.n)
    (hyes : lsaOk (ownL a x) → ∀ Y e' d' w' H' Hn', Abs.sub H0 Y → NB false Y o (announceN a x) e' d' w' Hn' → Abs.sub Hn' H' → K (.bool true) H')
    (hno : ¬ lsaOk (ownL a x) → ∀ H', Abs.sub Hn H' → K (.bool false) H') : ACalls P n_p_i_Net_announce [.ptr o 0 0, .int .i64 x] H K := by
  have hbH := hs _ _ hn.box
  have nc := hn.cell
  have hn6 := hok.2.1
  have k60 : a.up.es.length ≤ 60 := hok.1.2.1
  have hiff := ownL_ok hok hx
  obtain ⟨hr1, hdb1, hdo1⟩ := db_at hok hx
  obtain ⟨sq, hsq⟩ : ∃ sq, sq = nextSeq (a.dbs.getD x.toNat []) x := ⟨_, rfl⟩
  have hown : ownL a x = ⟨x, sq, 0, linksOf x a.up.es, [(256 * x, 8, 1)]⟩ := by rw [hsq]; rfl
  rw [← hsq] at hiff
  rw [hdb1] at hsq
  apply W_p_i_Net_announce
  unfold F_p_i_Net_announce
  simp [fillZ, bsl_one]
  rw [i64_in (n := 256 * x) (by omega) (by omega)]
  intro o5 ho5
  have hs5 : Abs.sub Hn (upd H o5 ⟨3, [[.int .i64 (256 * x), .int .i64 8, .int .i64 1]]⟩) := sub_trans hs (sub_fresh ho5)
  have hst : Held H 3 ([((256 * x, 8, 1) : TStub)].map enStub) (.slice o5 0 1 (some 1)) (upd H o5 ⟨3, [[.int .i64 (256 * x), .int .i64 8, .int .i64 1]]⟩) := Held.full ho5 rfl
  simp [stz_eq, putCells, aNil, aField_box]
  generalize upd H o5 ⟨3, [[.int .i64 (256 * x), .int .i64 8, .int .i64 1]]⟩ = H5 at *
  have hb5 := hs5 _ _ hn.box
  refine ⟨JA1 x sq (.slice o5 0 1 (some 1)) H5, ?_, ?_⟩
  · obtain ⟨od, cap, Yw, rws, rfl, hrl, hdb, hsy, hbk⟩ := hn.elem hr1
    simp [aLd_at hb5]
    rw [hdb.pt hs5 hx.1 hr1]
    obtain ⟨v1, p1, p2, p3⟩ := hdb.ld
    simp [p3 _ hs5, p2]
    refine C_i_Db_find ((dbT false).mono p1 hs5) hdo1 fun i b1 b2 b3 => ?_
    simp [aExtract]
    unfold nextSeq at hsq
    rcases find_case hdo1 b2 b3 with ⟨hi, ho', hf⟩ | ⟨hf1, hf⟩
    · rw [hf] at hsq
      refine ⟨fun f1 f2 => ?_, fun f => absurd ho' (f hi)⟩
      simp [aLd_at hb5]
      rw [hdb.pt hs5 hx.1 hr1]
      simp [aField_box, p3 _ hs5]
      refine rdS_at p1 hs5 (by omega) (by simpa using hi) fun p row hp hrow => hp.fld fun q hq => ?_
      simp only [Int.toNat_natCast] at hrow
      obtain ⟨la, sa, rfl, _, _⟩ := hrow
      have hlk := (hdo1.1 i hi).2.1
      rw [hq.ld]
      simp
      rw [i64_in (n := a.dbs[x.toNat][i].seq + 1) (by omega) (by omega)]
      exact Shr.of ⟨by rw [hsq]; rfl, rfl⟩
    · rw [hf] at hsq
      exact ⟨fun f1 f2 => absurd ⟨f1, f2⟩ hf1, fun _ => Shr.of ⟨by rw [hsq]; rfl, rfl⟩⟩
  · rintro ys Hc ⟨rfl, rfl⟩
    have hre := hn.rows.1
    simp [aLd_at hb5, nc, hre.len]
    refine ⟨InvAi x sq (.slice o5 0 1 (some 1)) a.up.es Hc, ⟨a.up.es.length, Shr.of ⟨0, .nils, by omega, rfl, by omega, by simpa [linksOf] using Held.nil⟩⟩, ?_⟩
    rintro m ys Hd ⟨i, u, hi, rfl, rfl, hu⟩
    have cu := hu.cell
    have hsd : Abs.sub Hn Hd := sub_trans hs5 hu.sub
    simp
    refine ⟨fun hlt => ?_, fun hge => ?_⟩
    · refine (hre.mono hsd).idx (by omega) (by simpa using hlt) fun p hp => ?_
      rw [hp.ld]
      simp [hlt, cu, bsl_one, stz_eq, putCells]
      rw [i64_in (n := (i : Int) + 1) (by omega) (by omega)]
      refine ⟨fun q => ?_, fun q => ?_⟩
      · intro o7 ho7
        have hll := links_le x (a.up.es.take i)
        simp at hll
        refine hu.append (sub_fresh ho7) (by simp) (by simp; omega) fun v' H' H'' ho' hs' => ?_
        have cv := ho'.cell
        simp [stz_eq, putCells, cv]
        refine ⟨a.up.es.length - (i + 1), by omega, H'', hs', i + 1, v', by omega, by simp, rfl, ?_⟩
        rw [links_yes hlt q, List.map_append]
        exact ho'
      · refine ⟨a.up.es.length - (i + 1), by omega, Shr.of ⟨i + 1, u, by omega, by simp, rfl, ?_⟩⟩
        rw [links_no hlt q]
        exact hu
    · have : i = a.up.es.length := by omega
      subst this
      rw [List.take_length] at hu
      obtain ⟨H1', r1, r2⟩ := Held.swap hst hu
      have hdp : Dp (lsaT false) H (ownL a x) (annRow x sq u (.slice o5 0 1 (some 1))) Hd := by
        have := Dp.lsa (b := false) (a := ownL a x) (l := u) (s := .slice o5 0 1 (some 1)) (by rw [hown]; exact r1) (by rw [hown]; exact r2)
        rw [hown] at this
        rw [hown]
        exact this
      refine ⟨fun q => ?_, fun q => ?_⟩
      · exact Ret.of (hno (fun hh => by have := hiff.1 hh; omega) _ hsd)
      have hlok := hiff.2 (by omega)
      have hyes := hyes hlok
      obtain ⟨Y, Hn1, d1, nb1, s1⟩ := hn.under hs hdp
      obtain ⟨od, cap, Yw, rws, rfl, hrl, hdb, hsy, hbk⟩ := nb1.elem hr1
      refine ⟨Hn1, s1, ?_⟩
      simp [aLd_at nb1.box]
      rw [hdb.pt (Abs.sub_refl _) hx.1 hr1]
      simp [cu]
      refine ⟨noHeap, none_sub _, ?_⟩
      refine C_p_i_Db_install (b' := false) hdb s1 ((lsaT false).mono d1.rd (sub_trans nb1.sub s1)) hdo1 hlok fun H3 Hn3 g1 g2 => ⟨none_sub _, ?_⟩
      have nb2 := hbk _ _ g1
      obtain ⟨Z1, Z2, e5, d5, nw5⟩ := nb2.split
      have hok2 : netOk ⟨a.up, a.dbs.set x.toNat (installR a.dbs[x.toNat] (ownL a x)).1, a.wires, a.lost⟩ := netOk_db hok (install_ok hdo1)
      have k400 := hok2.2.2.2.2.1
      have klost := hok2.2.2.2.2.2.1
      have hre2 : Rb false Z2 3 e (a.up.es.map enEdge) := (e5.rb fun r hr => by
        obtain ⟨x, _, rfl⟩ := List.mem_map.1 hr
        rfl).mono d5.sub
      have hl16 := lsa_small hlok
      have hl16' : (ownL a x).links.length + (ownL a x).stubs.length ≤ 16 := hl16
      refine C_p_i_Net_spread (l := ownL a x) nw5 g2 hre2 (by omega) k400 klost (by simp only; omega) ((lsaT false).mono d1.rd (sub_trans e5.sub d5.sub)) fun H6 Hn6 w5 w6 => ?_
      obtain ⟨w7, nb7⟩ := NB.sends spread_fits e5 d5 w5
      have hnm : announceN a x = spreadN ⟨a.up, a.dbs.set x.toNat (installR a.dbs[x.toNat] (ownL a x)).1, a.wires, a.lost⟩ x (-1) (ownL a x) := by
        unfold announceN
        rw [hdb1]
      rw [← hnm] at nb7
      exact Ret.of (hyes _ _ _ _ _ _ d1.sub nb7 w6)
end Go.Proofs.YtohicpepcjgnaaaGreat
/-
Contracts: Announce, of both sides.
-/
namespace Go.Proofs.YtohicpepcjgnaaaGreat
open Go Go.Abs Go.Proofs

/-- The net is copied and handed out. -/
theorem own_end {t : Bool} {a : TNet} {vs : List V} {H H2 : Heap} {K : V → Heap → Prop} (hv : (netT false).rd H a vs) (hl : bNet a) (hs : Abs.sub H H2) (h : ∀ us H', Dp (netT false) H a us H' → K (.tup [.agg us, .bool t]) H') :
    ACalls P n_i_ownNet [.agg vs] H2 fun v12 H13 =>
      bnd (stz 5 [(.int .i64 0), .nils, .nils, .nils, (.int .i64 0)] 0 v12) fun c14 =>
      bnd (if 5 ≤ c14.length then some (V.agg (List.take 5 c14)) else none) fun t15 =>
      Ret K (.tup [t15, (.bool t)]) H13 := by
  refine C_i_ownNet (c := false) ((netT false).mono hv hs) hl fun us H3 hus => ?_
  obtain ⟨Hy, y1, y2⟩ := hus.shrink hs
  obtain ⟨e6, d6, w6, _, _, rfl, p1, p2, p3⟩ := net_dp hus
  have c6 := And.intro p1.cell (And.intro (dpS_cell p2) (dpS_cell p3))
  simp [stz_eq, putCells, c6]
  exact Ret.shr (h _ _ y1) rfl y2
set_option maxHeartbeats 2000000 in
theorem C_i_Announce {c : Bool} {a : TNet} {vs : List V} {x : Int} {H : Heap} {K : V → Heap → Prop} (hv : (netT false).rd H a vs) (hl : bNet a)
    (h : ∀ us H', Dp (netT false) H (announceR a x).1 us H' → K (.tup [.agg us, .bool (announceR a x).2]) H') : ACalls P n_i_Announce [.agg vs, .int .i64 x] H K := by
  have hv' := hv
  obtain ⟨e0, d0, w0, rfl, g1, g2, g3⟩ := hv
  have hc := net_cell g1 g2 g3
  apply W_i_Announce
  unfold F_i_Announce
  simp [hc]
  refine C_i_ownNet (c := false) hv' hl fun us H3 hus => ?_
  have hus' := hus
  obtain ⟨e, d, w, H1, H2, rfl, h1, h2, h3⟩ := net_dp hus
  have ce := h1.cell
  have cd := dpS_cell h2
  have cw := dpS_cell h3
  intro o ho
  rw [aSt_at (upd_eq H3 o _)]
  simp [stz_eq, putCells, ce, cd, cw]
  have nb := NB.of hus' ho
  generalize upd H3 o ⟨5, [netRow a e d w]⟩ = Hn at *
  have hs : Abs.sub H Hn := nb.sub
  refine C_i_NetOk ((netT false).mono hv' hs) hl ?_
  simp
  unfold announceR at h
  have no : ¬ (netOk a ∧ (0 ≤ x ∧ x < a.up.n) ∧ lsaOk (ownL a x)) → ∀ us H', Dp (netT false) H a us H' → K (.tup [.agg us, .bool false]) H' := fun q => by
    rw [if_neg q] at h
    exact h
  refine ⟨fun q => own_end hv' hl hs (no fun hh => q hh.1), fun q => ?_⟩
  refine C_i_Graph_isNode (g1.1.mono hs) ⟨q.1.1.1, by have := q.2.1; omega⟩ ?_
  simp
  refine ⟨fun q2 => own_end hv' hl hs (no fun hh => by have := hh.2.1; omega), fun q2 q3 => ?_⟩
  refine C_p_i_Net_announce nb (Abs.sub_refl _) q ⟨q2, q3⟩ (fun hl0 Y e' d' w' H' Hn' f1 f2 f3 => ?_) fun hl0 H' hs' => ?_
  · rw [if_pos ⟨q, ⟨q2, q3⟩, hl0⟩] at h
    simp
    exact net_end f1 f2 f3 h
  · simp
    exact own_end hv' hl (sub_trans hs hs') (no fun hh => hl0 hh.2.2)
abbrev zrow : List V := [.int .i64 0, .nils, .nils, .nils, .int .i64 0]
def JA2 (r : List V) (x s : Int) (v : V) (H : Heap) (ys : List V) (Hc : Heap) : Prop := ys = [.box r, .box zrow, .box (annRow x s .nils v)] ∧ Hc = H
def InvAs (r : List V) (x s : Int) (v : V) (es : List TEdge) (H : Heap) (m : Nat) (ys : List V) (Hc : Heap) : Prop :=
  ∃ (i : Nat) (u : V), i ≤ es.length ∧ ys = [.box r, .box zrow, .box (annRow x s u v), .int .i64 (i : Nat)] ∧ m = es.length - i ∧ Held H 2 ((linksOf x (es.take i)).map enLink) u Hc
end Go.Proofs.YtohicpepcjgnaaaGreat
/-
Contracts: a link of a net is set, by the reference.
-/
namespace Go.Proofs.YtohicpepcjgnaaaGreat
open Go Go.Abs Go.Proofs

theorem announce_yes {a : TNet} {x : Int} (h : netOk a) (hx : 0 ≤ x ∧ x < a.up.n) (k : lsaOk (ownL a x)) : announceR a x = (announceN a x, true) := by
  unfold announceR
  rw [if_pos ⟨h, hx, k⟩]
theorem announce_no {a : TNet} {x : Int} (k : ¬ lsaOk (ownL a x)) : announceR a x = (a, false) := by
  unfold announceR
  rw [if_neg fun h => k h.2.2]
theorem Fits.of_tell (a : TNet) (x y : Int) : Fits a (tellN a x y) := tell_fits a x y
def JSw (x y : Int) (H : Heap) (ys : List V) (Hc : Heap) : Prop := ys = [.int .i64 x, .int .i64 y] ∧ Hc = H
end Go.Proofs.YtohicpepcjgnaaaGreat
/-
Contracts: an edge is put into one's own slice.
-/
namespace Go.Proofs.YtohicpepcjgnaaaGreat
open Go Go.Abs Go.Proofs

def InsRE (o n c : Nat) (final : List (List V)) (H : Heap) (v : V) (H' : Heap) : Prop :=
  (v = .slice o 0 (n + 1) (some c) ∧ ∃ ex', H' = upd H o ⟨3, final ++ ex'⟩) ∨ (∃ o', H o' = none ∧ v = .slice o' 0 (n + 1) none ∧ H' = upd H o' ⟨3, final⟩)
set_option maxHeartbeats 2000000 in
theorem insert_coreE {rows ex : List (List V)} {r : List V} {o q i c n : Nat} {H : Heap} (ho : H o = some ⟨3, rows ++ ex⟩) (hq : H q = some ⟨3, [r]⟩) (hqo : q ≠ o) (hn : rows.length = n) (hi : i < n) (hc : n + ex.length = c) (hl : n ≤ 1048576) :
    ACalls P n_slices_Insert_i_Edge_i_Edge [.slice o 0 n (some c), .int .i64 (i : Nat), .slice q 0 1 (some 1)] H (InsRE o n c (putAt rows i r) H) := by
  subst hn
  apply W_slices_Insert_i_Edge_i_Edge
  unfold F_slices_Insert_i_Edge_i_Edge
  have e1 : aSlice H 3 (.slice o 0 rows.length (some c)) (some (.int .i64 (i : Nat))) none none = some (.slice o i (rows.length - i) (some (c - i))) := by
    simp [aSlice, ho, bound, natOf]
    omega
  have a1 : IntKind.i64.wrap ((rows.length : Int) + 1) = ((rows.length + 1 : Nat) : Int) := by rw [i64_in (by omega) (by omega)]; omega
  have a2 : IntKind.i64.wrap ((i : Int) + 1) = ((i + 1 : Nat) : Int) := by rw [i64_in (by omega) (by omega)]; omega
  have a3 : IntKind.i64.wrap (((rows.length + 1 : Nat) : Int) - (i : Int)) = ((rows.length + 1 - i : Nat) : Int) := by rw [i64_in (by omega) (by omega)]; omega
  have ra : ∀ {H' : Heap}, H' q = some ⟨3, [r]⟩ → rowsOf H' 3 (.slice q 0 1 (some 1)) = some [r] := fun h => by simp [rowsOf, h]
  simp only [e1, bnd_some, lenOf]
  simp
  refine ⟨fun h => absurd h (by omega), fun _ => ?_⟩
  rw [a1]
  simp only [capK]
  have hfin : (putAt rows i r).length = rows.length + 1 := putAt_len (by omega)
  simp
  refine ⟨fun hgt => ?_, fun hle => ?_⟩
  · have hex : ex = [] := List.eq_nil_of_length_eq_zero (by omega)
    subst hex
    simp only [List.append_nil, List.length_nil, Nat.add_zero] at ho hc
    subst hc
    have e2 : aSlice H 3 (.slice o 0 rows.length (some rows.length)) none (some (.int .i64 (i : Nat))) none = some (.slice o 0 i (some rows.length)) := by
      simp [aSlice, ho, bound, natOf]
      omega
    have a3' : IntKind.i64.wrap ((rows.length : Int) + 1 - (i : Int)) = ((rows.length + 1 - i : Nat) : Int) := by rw [i64_in (by omega) (by omega)]; omega
    simp only [e2, bnd_some, a3', growZ, ho]
    have hm : i + (rows.length + 1 - i) = rows.length + 1 := by omega
    refine ⟨trivial, by simp; omega, by omega, by omega, by simp; omega, by simp; omega, fun o' ho' => ?_⟩
    simp only [Int.toNat_natCast, hm, List.drop_zero]
    have hqo' : q ≠ o' := by rintro rfl; rw [hq] at ho'; cases ho'
    have hoo' : o ≠ o' := by rintro rfl; rw [ho] at ho'; cases ho'
    generalize hz : List.replicate (rows.length + 1 - i) [V.int .i64 0, .int .i64 0, .int .i64 0] = z
    have hzl : z.length = rows.length + 1 - i := by rw [← hz]; simp
    have hti : (rows.take i).length = i := by simp; omega
    have e3 : aSlice (upd H o' ⟨3, rows.take i ++ z⟩) 3 (.slice o' 0 (rows.length + 1) none) (some (.int .i64 (i : Nat))) none none = some (.slice o' i (rows.length + 1 - i) none) := by
      simp [aSlice, bound, natOf]
      omega
    rw [e3]
    simp only [bnd_some]
    rw [ra (by rw [upd_off hqo']; exact hq)]
    simp only [bnd_some, copyK, upd_eq]
    refine ⟨trivial, by simp; omega, ?_⟩
    rw [a2]
    have r1 : (rows.take i ++ z).take i ++ [r].take (rows.length + 1 - i) ++ (rows.take i ++ z).drop (i + min [r].length (rows.length + 1 - i)) = rows.take i ++ [r] ++ z.drop 1 := by
      have h1 : (rows.take i ++ z).take i = rows.take i := by rw [List.take_append_of_le_length (by omega), List.take_of_length_le (by omega)]
      have h2 : [r].take (rows.length + 1 - i) = [r] := List.take_of_length_le (by simp; omega)
      have h3 : min [r].length (rows.length + 1 - i) = 1 := by simp; omega
      have h4 : (rows.take i ++ z).drop (i + 1) = z.drop 1 := by
        rw [List.drop_append, List.drop_of_length_le (by omega)]
        simp [hti]
      rw [h1, h2, h3, h4]
    rw [r1, upd_upd]
    have sn : ∀ {H' : Heap} {rs : List (List V)} {k : Nat}, H' o' = some ⟨3, rs⟩ → k ≤ rows.length + 1 → aSlice H' 3 (.slice o' 0 (rows.length + 1) none) (some (.int .i64 (k : Nat))) none none = some (.slice o' k (rows.length + 1 - k) none) := fun hH hk => by
      simp [aSlice, hH, bound, natOf]
      omega
    have e4 := sn (H' := upd H o' ⟨3, rows.take i ++ [r] ++ z.drop 1⟩) (upd_eq _ _ _) (k := i + 1) (by omega)
    have hk4 : rows.length + 1 - (i + 1) = rows.length - i := by omega
    rw [hk4] at e4
    have e5 : aSlice (upd H o' ⟨3, rows.take i ++ [r] ++ z.drop 1⟩) 3 (.slice o 0 rows.length (some rows.length)) (some (.int .i64 (i : Nat))) none none = some (.slice o i (rows.length - i) (some (rows.length - i))) := by
      simp [aSlice, upd_off hoo', ho, bound, natOf]
      omega
    have e6 : rowsOf (upd H o' ⟨3, rows.take i ++ [r] ++ z.drop 1⟩) 3 (.slice o i (rows.length - i) (some (rows.length - i))) = some (rows.drop i) := by
      have h2 : (rows.drop i).take (rows.length - i) = rows.drop i := List.take_of_length_le (by simp)
      simp [rowsOf, upd_off hoo', ho, h2]
      omega
    rw [e4]
    simp only [bnd_some, e5, e6, copyK, upd_eq]
    have hl2 : (rows.take i ++ [r] ++ z.drop 1).length = rows.length + 1 := by
      rw [List.length_append, List.length_append, hti, List.length_drop, hzl]
      simp; omega
    refine ⟨trivial, by omega, Ret.of (.inr ⟨o', ho', rfl, ?_⟩)⟩
    rw [upd_upd]
    have r2 : (rows.take i ++ [r] ++ z.drop 1).take (i + 1) ++ (rows.drop i).take (rows.length - i) ++ (rows.take i ++ [r] ++ z.drop 1).drop (i + 1 + min (rows.drop i).length (rows.length - i)) = putAt rows i r := by
      have hl1 : (rows.take i ++ [r]).length = i + 1 := by simp; omega
      have h1 : (rows.take i ++ [r] ++ z.drop 1).take (i + 1) = rows.take i ++ [r] := by rw [List.take_append_of_le_length (by omega), List.take_of_length_le (by omega)]
      have h2 : (rows.drop i).take (rows.length - i) = rows.drop i := List.take_of_length_le (by simp)
      have h3 : (rows.take i ++ [r] ++ z.drop 1).drop (i + 1 + min (rows.drop i).length (rows.length - i)) = [] := List.drop_eq_nil_of_le (by simp; omega)
      rw [h1, h2, h3, List.append_nil]
    rw [r2]
    simp [putAt]
  · have e2 : aSlice H 3 (.slice o 0 rows.length (some c)) none (some (.int .i64 ((rows.length + 1 : Nat) : Int))) none = some (.slice o 0 (rows.length + 1) (some c)) := by
      have : ((rows.length : Int) + 1).toNat = rows.length + 1 := by omega
      have h3 : (0 : Int) ≤ (rows.length : Int) + 1 := by omega
      simp [aSlice, ho, bound, natOf, this, h3]
      omega
    have sl : ∀ {H' : Heap} {rs : List (List V)} {k : Nat}, H' o = some ⟨3, rs⟩ → k ≤ rows.length + 1 → aSlice H' 3 (.slice o 0 (rows.length + 1) (some c)) (some (.int .i64 (k : Nat))) none none = some (.slice o k (rows.length + 1 - k) (some (c - k))) := fun hH hk => by
      simp [aSlice, hH, bound, natOf]
      omega
    have e2' : aSlice H 3 (.slice o 0 rows.length (some c)) none (some (.int .i64 ((rows.length : Int) + 1))) none = some (.slice o 0 (rows.length + 1) (some c)) := by
      have := e2
      simpa using this
    simp only [e2', bnd_some, a2]
    rw [sl ho (by omega)]
    simp only [bnd_some]
    have hrl : (rows ++ ex).length = c := by simp; omega
    refine ⟨X_slices_overlaps_i_Edge, q, 0, 1, some 1, o, i + 1, rows.length + 1 - (i + 1), some (c - (i + 1)), rfl, ⟨hqo, by omega, by omega⟩, ⟨_, hq⟩, ⟨_, ho, by intro h; simp at h; rw [h.1] at hi; simp at hi, by simp⟩, ?_⟩
    simp only [aNot, bnd_some]
    simp only [cnd]
    rw [sl ho (by omega), sl ho (by omega)]
    simp only [bnd_some]
    have e6 : rowsOf H 3 (.slice o i (rows.length + 1 - i) (some (c - i))) = some (((rows ++ ex).drop i).take (rows.length + 1 - i)) := by
      simp [rowsOf, ho]
      omega
    rw [e6]
    simp only [bnd_some, copyK, ho]
    refine ⟨trivial, by rw [hrl]; omega, ?_⟩
    have r1 : (rows ++ ex).take (i + 1) ++ (((rows ++ ex).drop i).take (rows.length + 1 - i)).take (rows.length + 1 - (i + 1)) ++ (rows ++ ex).drop (i + 1 + min (((rows ++ ex).drop i).take (rows.length + 1 - i)).length (rows.length + 1 - (i + 1))) = rows.take i ++ [rows[i]] ++ rows.drop i ++ ex.drop 1 := by
      have h1 : (rows ++ ex).take (i + 1) = rows.take i ++ [rows[i]] := by rw [List.take_append_of_le_length (by omega), List.take_succ_eq_append_getElem (by omega)]
      have h2 : (((rows ++ ex).drop i).take (rows.length + 1 - i)).take (rows.length + 1 - (i + 1)) = rows.drop i := by
        rw [List.take_take, List.drop_append_of_le_length (by omega), List.take_append_of_le_length (by simp; omega), List.take_of_length_le (by simp; omega)]
      have h3 : i + 1 + min (((rows ++ ex).drop i).take (rows.length + 1 - i)).length (rows.length + 1 - (i + 1)) = rows.length + 1 := by simp; omega
      have h4 : (rows ++ ex).drop (rows.length + 1) = ex.drop 1 := by
        rw [List.drop_append, List.drop_of_length_le (by omega)]
        simp
      rw [h1, h2, h3, h4]
    rw [r1]
    generalize hA : rows.take i ++ [rows[i]] ++ rows.drop i ++ ex.drop 1 = A
    have hAl : A.length = rows.length + 1 + (ex.length - 1) := by rw [← hA]; simp; omega
    rw [sl (upd_eq _ _ _) (by omega)]
    simp only [bnd_some]
    rw [ra (by rw [upd_off hqo]; exact hq)]
    simp only [bnd_some, copyK, upd_eq]
    refine ⟨trivial, by omega, Ret.of (.inl ⟨rfl, ex.drop 1, ?_⟩)⟩
    rw [upd_upd]
    have r2 : A.take i ++ [r].take (rows.length + 1 - i) ++ A.drop (i + min [r].length (rows.length + 1 - i)) = putAt rows i r ++ ex.drop 1 := by
      have h2 : [r].take (rows.length + 1 - i) = [r] := List.take_of_length_le (by simp; omega)
      have h3 : min [r].length (rows.length + 1 - i) = 1 := by simp; omega
      have hti : (rows.take i).length = i := by simp; omega
      have h1 : A.take i = rows.take i := by
        rw [← hA, List.append_assoc, List.append_assoc, List.take_append_of_le_length (by omega), List.take_of_length_le (by omega)]
      have h4 : A.drop (i + 1) = rows.drop i ++ ex.drop 1 := by
        have hl1 : (rows.take i ++ [rows[i]]).length = i + 1 := by simp; omega
        rw [← hA, List.append_assoc, List.drop_append, List.drop_of_length_le (by omega), hl1]
        simp
      rw [h2, h3, h1, h4]
      simp [putAt]
    rw [r2]
    simp [putAt]

theorem C_InsertE_rows {rows : List (List V)} {r : List V} {u : V} {i q : Nat} {H0 Ho H : Heap} {K : V → Heap → Prop} (hu : Held H0 3 rows u Ho) (hs : Abs.sub Ho H) (hq : H q = some ⟨3, [r]⟩) (hq0 : Ho q = none) (hi : i ≤ rows.length) (hl : rows.length ≤ 1048575)
    (h : ∀ v H' H'', Held H0 3 (putAt rows i r) v H'' → Abs.sub H'' H' → K v H') : ACalls P n_slices_Insert_i_Edge_i_Edge [u, .int .i64 (i : Nat), .slice q 0 1 (some 1)] H K := by
  by_cases e : i = rows.length
  · subst e
    apply W_slices_Insert_i_Edge_i_Edge
    unfold F_slices_Insert_i_Edge_i_Edge
    have hlu : lenOf u = some rows.length := by
      rcases hu with ⟨rfl, rfl, _⟩ | ⟨o, cap, _, rfl, _⟩ <;> rfl
    have e1 : ∃ w, aSlice H 3 u (some (.int .i64 (rows.length : Nat))) none none = some w := by
      rcases hu with ⟨rfl, rfl, _⟩ | ⟨o, cap, h1, rfl, hc, rfl⟩
      · exact ⟨.nils, by simp [aSlice, bound, natOf]⟩
      · have ho : H o = some ⟨3, rows⟩ := hs _ _ (upd_eq _ _ _)
        cases cap with
        | none => exact ⟨_, by simp [aSlice, ho, bound, natOf]; rfl⟩
        | some c =>
          have := hc c rfl
          subst this
          exact ⟨_, by simp [aSlice, ho, bound, natOf]; rfl⟩
    obtain ⟨w, e1⟩ := e1
    have ra : rowsOf H 3 (.slice q 0 1 (some 1)) = some [r] := by simp [rowsOf, hq]
    have hl1 : lenOf (.slice q 0 1 (some 1)) = some 1 := rfl
    simp only [e1, hlu, hl1, bnd_some]
    simp
    rw [ra]
    simp only [bnd_some]
    refine hu.append hs (by simp) (by simp; omega) fun v' H' H'' q1 q2 => Ret.of (h _ _ _ ?_ q2)
    rw [putAt, List.take_length, List.drop_length, List.append_nil]
    exact q1
  · rcases hu with ⟨_, rfl, _⟩ | ⟨o, cap, h1, rfl, hc, rfl⟩
    · simp at hi; simp at e; omega
    · have ho : H o = some ⟨3, rows⟩ := hs _ _ (upd_eq _ _ _)
      have hqo : q ≠ o := by rintro rfl; rw [upd_eq] at hq0; cases hq0
      have hpl : (putAt rows i r).length = rows.length + 1 := putAt_len hi
      have h0H : Abs.sub H0 H := sub_trans (sub_fresh h1) hs
      have fin : ∀ {c : Nat} {H2 : Heap}, H2 = H ∨ (∃ x, H2 = upd H o x) → ∀ v H', InsRE o rows.length c (putAt rows i r) H2 v H' →
          K v H' ∨ ∃ o n c sz rows ex, v = .slice o 0 n (some c) ∧ H' o = some ⟨sz, rows ++ ex⟩ ∧ K (.slice o 0 n none) (upd H' o ⟨sz, rows⟩) := by
        rintro c H2 hH2 v H' (⟨rfl, ex', rfl⟩ | ⟨o', ho', rfl, rfl⟩)
        · refine .inr ⟨o, rows.length + 1, c, 3, putAt rows i r, ex', rfl, upd_eq _ _ _, ?_⟩
          have : upd (upd H2 o ⟨3, putAt rows i r ++ ex'⟩) o ⟨3, putAt rows i r⟩ = upd H o ⟨3, putAt rows i r⟩ := by
            rcases hH2 with rfl | ⟨x, rfl⟩
            · rw [upd_upd]
            · rw [upd_upd, upd_upd]
          rw [this]
          exact h _ _ (upd H0 o ⟨3, putAt rows i r⟩) (.inr ⟨o, none, h1, by rw [hpl], by simp, rfl⟩) (sub_upd2 h0H)
        · have hoH : H o' = none := by
            rcases hH2 with rfl | ⟨x, rfl⟩
            · exact ho'
            · exact (upd_none ho').2
          refine .inl (h _ _ (upd H0 o' ⟨3, putAt rows i r⟩) (.inr ⟨o', none, sub_none h0H hoH, by rw [hpl], by simp, rfl⟩) ?_)
          refine sub_upd2 ?_
          rcases hH2 with rfl | ⟨x, rfl⟩
          · exact h0H
          · intro j y hj
            have hne : j ≠ o := by rintro rfl; rw [h1] at hj; cases hj
            rw [upd_off hne]
            exact h0H _ _ hj
      cases cap with
      | none =>
        refine ACalls.opened ho rfl fun c ex hx hc => ?_
        exact (insert_coreE (upd_eq _ _ _) (by rw [upd_off hqo]; exact hq) hqo rfl (by omega) hc (by omega)).closed (fin (.inr ⟨_, rfl⟩))
      | some c =>
        have := hc c rfl
        subst this
        exact (insert_coreE (ex := []) (by simpa using ho) hq hqo rfl (by omega) (by simp) (by omega)).closed (fin (.inl rfl))
end Go.Proofs.YtohicpepcjgnaaaGreat
/-
Contracts: an edge of one's own graph is set or left out, in place.
-/
namespace Go.Proofs.YtohicpepcjgnaaaGreat
open Go Go.Abs Go.Proofs

theorem midE (s : Nat) (_ : s ≤ 1000) : aBinN .shr (.int .u64 (IntKind.u64.wrap (s : Int))) (.int .u64 1) = some (.int .u64 ((s / 2 : Nat) : Int)) := by
  have h1 : IntKind.u64.wrap (s : Int) = s := by
    unfold IntKind.wrap
    simp [IntKind.bits, IntKind.signed]
    omega
  rw [h1]
  have h2 : ((s : Int)).fdiv 2 = ((s / 2 : Nat) : Int) := by
    rw [Int.fdiv_eq_ediv_of_nonneg _ (by omega)]
    omega
  show some (V.int .u64 (((s : Int)).fdiv (2 ^ (min (1 : Int).toNat IntKind.u64.bits)))) = _
  have h3 : (2 : Int) ^ (min (1 : Int).toNat IntKind.u64.bits) = 2 := by decide
  rw [h3, h2]
theorem C_i_Graph_setEdge_1 {e : TEdge} {x y : Int} {o1 o2 : Nat} {H : Heap} {K : V → Heap → Prop} (h1 : H o1 = some ⟨1, [[.int .i64 x]]⟩) (h2 : H o2 = some ⟨1, [[.int .i64 y]]⟩) (h : K (.bool (isKey x y e)) H) :
    ACalls P n_i_Graph_setEdge_1 [.agg (enEdge e), .ptr o1 0 0, .ptr o2 0 0] H K := by
  apply W_i_Graph_setEdge_1
  unfold F_i_Graph_setEdge_1
  simp [aLd_at h1, aLd_at h2]
  unfold isKey at h
  refine ⟨fun q => ?_, fun q => ?_⟩
  · refine Ret.eq h ?_
    simp [q]
  · refine Ret.eq h ?_
    simp [q]
def InvFx (x y : Int) (es : List TEdge) (H : Heap) (m : Nat) (ys : List V) (Hc : Heap) : Prop :=
  ∃ i : Nat, i ≤ es.length ∧ ys = [.int .i64 (i : Nat)] ∧ m = es.length - i ∧ Hc = H ∧ ∀ j, (h : j < es.length) → j < i → isKey x y es[j] = false
theorem C_Index_Edge {x y : Int} {es : List TEdge} {u : V} {o1 o2 : Nat} {H : Heap} {K : V → Heap → Prop} (hv : Rd H 3 u (es.map enEdge)) (hl : es.length ≤ 1048576) (h1 : H o1 = some ⟨1, [[.int .i64 x]]⟩) (h2 : H o2 = some ⟨1, [[.int .i64 y]]⟩)
    (hy : ∀ i : Nat, (hi : i < es.length) → isKey x y es[i] = true → (∀ j, (h : j < es.length) → j < i → isKey x y es[j] = false) → K (.int .i64 (i : Nat)) H)
    (hn : (∀ j, (h : j < es.length) → isKey x y es[j] = false) → K (.int .i64 (-1)) H) : ACalls P n_slices_IndexFunc_i_Edge_i_Edge [u, .fn n_i_Graph_setEdge_1 [.ptr o1 0 0, .ptr o2 0 0]] H K := by
  apply W_slices_IndexFunc_i_Edge_i_Edge
  unfold F_slices_IndexFunc_i_Edge_i_Edge
  simp [hv.len]
  refine ⟨InvFx x y es H, ⟨es.length, Shr.of ⟨0, by omega, rfl, by omega, rfl, fun j _ hj => absurd hj (by omega)⟩⟩, ?_⟩
  rintro m ys Hc ⟨i, hi, rfl, rfl, rfl, hok⟩
  simp
  refine ⟨fun hlt => ?_, fun hge => ?_⟩
  · have hgd : (es.map enEdge).getD i [] = enEdge es[i] := by simp [hlt]
    refine hv.idx (by omega) (by simpa using hlt) fun p hp => ?_
    simp only [Int.toNat_natCast, hgd] at hp
    rw [hp.ld]
    simp
    simp only [callK]
    rw [E_i_Graph_setEdge_1]
    show ACalls P n_i_Graph_setEdge_1 [.agg (enEdge es[i]), .ptr o1 0 0, .ptr o2 0 0] Hc _
    refine C_i_Graph_setEdge_1 h1 h2 ?_
    cases hq : isKey x y es[i]
    · simp
      rw [i64_in (n := (i : Int) + 1) (by omega) (by omega)]
      exact ⟨es.length - (i + 1), by omega, Shr.of ⟨i + 1, by omega, by simp, rfl, rfl, fun j hj hji => by
        by_cases e : j = i
        · subst e; exact hq
        · exact hok j hj (by omega)⟩⟩
    · simp
      exact Ret.of (hy i hlt hq hok)
  · have : i = es.length := by omega
    subst this
    exact Ret.of (hn fun j hj => hok j hj hj)
theorem drop_yes {x y : Int} {es : List TEdge} {i : Nat} (hi : i < es.length) (h : isKey x y es[i] = true) : dropE x y (es.take (i + 1)) = dropE x y (es.take i) := by
  unfold dropE
  rw [List.take_succ_eq_append_getElem hi, List.filter_append]
  simp [h]
theorem drop_no {x y : Int} {es : List TEdge} {i : Nat} (hi : i < es.length) (h : isKey x y es[i] = false) : dropE x y (es.take (i + 1)) = dropE x y (es.take i) ++ [es[i]] := by
  unfold dropE
  rw [List.take_succ_eq_append_getElem hi, List.filter_append]
  simp [h]
theorem drop_none {x y : Int} {es : List TEdge} {i : Nat} (hok : ∀ j, (h : j < es.length) → j < i → isKey x y es[j] = false) : dropE x y (es.take i) = es.take i := by
  unfold dropE
  rw [List.filter_eq_self]
  intro a ha
  obtain ⟨j, hj, rfl⟩ := List.mem_iff_getElem.1 ha
  simp at hj
  simp [hok j (by omega) (by omega)]
def InvFd (x y : Int) (es : List TEdge) (o c : Nat) (H : Heap) (m : Nat) (ys : List V) (Hc : Heap) : Prop :=
  ∃ (i j : Nat) (A : List (List V)), i ≤ j ∧ j ≤ es.length ∧ ys = [.int .i64 (i : Nat), .int .i64 (j : Nat)] ∧ m = es.length - j ∧ Hc = upd H o ⟨3, A⟩ ∧ A.length = c ∧ (∀ r ∈ A, r.length = 3) ∧
    A.take i = (dropE x y (es.take j)).map enEdge ∧ ∀ t, j ≤ t → (h : t < es.length) → A[t]? = some (enEdge es[t])
set_option maxHeartbeats 2000000 in
theorem deleteF_core {x y : Int} {es : List TEdge} {ex : List (List V)} {o c o1 o2 : Nat} {H : Heap} (ho : H o = some ⟨3, es.map enEdge ++ ex⟩) (hex : ∀ r ∈ ex, r.length = 3) (hc : es.length + ex.length = c) (hl : es.length ≤ 1048576) (h1 : H o1 = some ⟨1, [[.int .i64 x]]⟩) (h2 : H o2 = some ⟨1, [[.int .i64 y]]⟩) :
    ACalls P n_slices_DeleteFunc_i_Edge_i_Edge [.slice o 0 es.length (some c), .fn n_i_Graph_setEdge_1 [.ptr o1 0 0, .ptr o2 0 0]] H fun v H' => v = .slice o 0 (dropE x y es).length (some c) ∧ ∃ ex', H' = upd H o ⟨3, (dropE x y es).map enEdge ++ ex'⟩ := by
  have hne1 : o1 ≠ o := by rintro rfl; rw [h1] at ho; cases ho
  have hne2 : o2 ≠ o := by rintro rfl; rw [h2] at ho; cases ho
  have hself : ∀ (A : List (List V)), H o = some ⟨3, A⟩ → H = upd H o ⟨3, A⟩ := fun A hA => by
    funext i
    unfold upd
    split
    · rename_i hi; rw [hi]; exact hA
    · rfl
  have hrd : Rd H 3 (.slice o 0 es.length (some c)) (es.map enEdge) := ⟨fun r hr => by
      obtain ⟨e, _, rfl⟩ := List.mem_map.1 hr
      rfl, .inr (.inr ⟨o, 0, some c, _, by simp, ho, rfl, by simp, fun i hi => by
      rw [Nat.zero_add, List.getElem?_append_left hi]⟩)⟩
  apply W_slices_DeleteFunc_i_Edge_i_Edge
  unfold F_slices_DeleteFunc_i_Edge_i_Edge
  refine C_Index_Edge hrd hl h1 h2 (fun i hi hk hno => ?_) fun hno => ?_
  rotate_left
  · simp
    have e := drop_none (x := x) (y := y) (i := es.length) fun j hj _ => hno j hj
    rw [List.take_length] at e
    rw [e]
    exact Ret.of ⟨rfl, ex, hself _ ho⟩
  simp
  rw [i64_in (n := (i : Int) + 1) (by omega) (by omega)]
  refine ⟨InvFd x y es o c H, ⟨es.length - (i + 1), Shr.of ⟨i, i + 1, es.map enEdge ++ ex, by omega, by omega, by simp, rfl, hself _ ho, by simp; omega, ?_, ?_, ?_⟩⟩, ?_⟩
  · intro r hr
    rcases List.mem_append.1 hr with hr | hr
    · obtain ⟨e, _, rfl⟩ := List.mem_map.1 hr
      rfl
    · exact hex r hr
  · rw [drop_yes hi hk, drop_none hno, List.take_append_of_le_length (by simp; omega), List.map_take]
  · intro t _ ht
    rw [List.getElem?_append_left (by simpa using ht)]
    simp [ht]
  rintro m ys Hc ⟨i, j, A, hij, hj, rfl, rfl, rfl, hA, hw, hk, ht⟩
  simp
  refine ⟨fun hlt => ?_, fun hge => ?_⟩
  · have hx := idx_own (k := .i64) (cap := some c) (n := es.length) (i := (j : Int)) (upd_eq H o ⟨3, A⟩) (by omega) (by omega)
    rw [hx]
    have hrow := ht j (Nat.le_refl _) hlt
    simp [aLd, Go.Abs.rowAt, hrow, stz_eq, putCells]
    simp only [callK]
    rw [E_i_Graph_setEdge_1]
    show ACalls P n_i_Graph_setEdge_1 [.agg (enEdge es[j]), .ptr o1 0 0, .ptr o2 0 0] (upd H o ⟨3, A⟩) _
    refine C_i_Graph_setEdge_1 (by rw [upd_off hne1]; exact h1) (by rw [upd_off hne2]; exact h2) ?_
    rw [i64_in (n := (j : Int) + 1) (by omega) (by omega)]
    cases hq : isKey x y es[j]
    · simp
      rw [i64_in (n := (i : Int) + 1) (by omega) (by omega)]
      have hx2 := idx_own (k := .i64) (cap := some c) (n := es.length) (i := (i : Int)) (upd_eq H o ⟨3, A⟩) (by omega) (by omega)
      rw [hx2]
      have hiA : i < A.length := by omega
      have hr0 : A[i]? = some A[i] := List.getElem?_eq_getElem hiA
      have hwi := hw _ (List.getElem_mem hiA)
      have hput : putCells A[i] 0 [V.int .i64 es[j].1, V.int .i64 es[j].2.1, V.int .i64 es[j].2.2] = enEdge es[j] := by simp [putCells]; omega
      rw [bnd_some, aSt_own (upd_eq H o ⟨3, A⟩) (r := (i : Int).toNat) (row := A[i]) (row' := enEdge es[j]) (by simpa using hr0) (by simp [stz, hwi, hput])]
      simp
      refine ⟨es.length - (j + 1), by omega, Shr.of ⟨i + 1, j + 1, A.set i (enEdge es[j]), by omega, by omega, by simp, rfl, rfl, by simpa using hA, ?_, ?_, ?_⟩⟩
      · intro r hr
        rcases List.mem_or_eq_of_mem_set hr with hr | rfl
        · exact hw r hr
        · rfl
      · rw [drop_no hlt hq, List.map_append, ← hk]
        rw [List.take_succ_eq_append_getElem (by simpa using hiA), List.take_set_of_le (Nat.le_refl _)]
        simp
      · intro t ht1 ht2
        rw [List.getElem?_set_ne (by omega)]
        exact ht t (by omega) ht2
    · simp
      refine ⟨es.length - (j + 1), by omega, Shr.of ⟨i, j + 1, A, by omega, by omega, by simp, rfl, rfl, hA, hw, ?_, fun t ht1 ht2 => ht t (by omega) ht2⟩⟩
      rw [drop_yes hlt hq]
      exact hk
  · have : j = es.length := by omega
    subst this
    rw [List.take_length] at hk
    have hlen : (dropE x y es).length = i := by
      have := congrArg List.length hk
      simp at this
      omega
    have e1 : aSlice (upd H o ⟨3, A⟩) 3 (.slice o 0 es.length (some c)) (some (.int .i64 (i : Nat))) none none = some (.slice o i (es.length - i) (some (c - i))) := by
      simp [aSlice, bound, natOf]
      omega
    rw [e1]
    simp only [bnd_some, clearK, upd_eq]
    refine ⟨trivial, by omega, by simp, ?_⟩
    rw [upd_upd]
    have e2 : ∀ B, aSlice (upd H o ⟨3, B⟩) 3 (.slice o 0 es.length (some c)) none (some (.int .i64 (i : Nat))) none = some (.slice o 0 i (some c)) := fun B => by
      simp [aSlice, bound, natOf]
      omega
    rw [e2]
    simp only [bnd_some]
    refine Ret.of ⟨by rw [hlen], List.replicate (es.length - i) [.int .i64 0, .int .i64 0, .int .i64 0] ++ A.drop (i + (es.length - i)), ?_⟩
    rw [hk, List.append_assoc]
theorem C_DeleteFunc_Edge {x y : Int} {es : List TEdge} {u : V} {o1 o2 : Nat} {H0 Ho H : Heap} {K : V → Heap → Prop} (hu : Held H0 3 (es.map enEdge) u Ho) (hs : Abs.sub Ho H) (h1 : H0 o1 = some ⟨1, [[.int .i64 x]]⟩) (h2 : H0 o2 = some ⟨1, [[.int .i64 y]]⟩) (hl : es.length ≤ 1048576)
    (h : ∀ v H' H'', Held H0 3 ((dropE x y es).map enEdge) v H'' → Abs.sub H'' H' → K v H') : ACalls P n_slices_DeleteFunc_i_Edge_i_Edge [u, .fn n_i_Graph_setEdge_1 [.ptr o1 0 0, .ptr o2 0 0]] H K := by
  have h1H := hs _ _ (hu.sub _ _ h1)
  have h2H := hs _ _ (hu.sub _ _ h2)
  have hu' := hu
  rcases hu with ⟨rfl, hr, rfl⟩ | ⟨o, cap, ho0, rfl, hc, rfl⟩
  · have he : es = [] := by simpa using hr
    subst he
    apply W_slices_DeleteFunc_i_Edge_i_Edge
    unfold F_slices_DeleteFunc_i_Edge_i_Edge
    refine C_Index_Edge (es := []) (Rd.nils) (by simp) h1H h2H (fun i hi => absurd hi (by simp)) fun _ => ?_
    simp
    exact Ret.of (h _ _ Ho (by simpa [dropE] using hu') hs)
  · have ho : H o = some ⟨3, es.map enEdge⟩ := hs _ _ (upd_eq _ _ _)
    have hlm : (es.map enEdge).length = es.length := by simp
    have h0H : Abs.sub H0 H := sub_trans (sub_fresh ho0) hs
    rw [hlm]
    have fin : ∀ {c : Nat} {H2 : Heap}, H2 = H ∨ (∃ x, H2 = upd H o x) → ∀ v H', (v = .slice o 0 (dropE x y es).length (some c) ∧ ∃ ex', H' = upd H2 o ⟨3, (dropE x y es).map enEdge ++ ex'⟩) →
        K v H' ∨ ∃ o n c sz rows ex, v = .slice o 0 n (some c) ∧ H' o = some ⟨sz, rows ++ ex⟩ ∧ K (.slice o 0 n none) (upd H' o ⟨sz, rows⟩) := by
      rintro c H2 hH2 v H' ⟨rfl, ex', rfl⟩
      refine .inr ⟨o, (dropE x y es).length, c, 3, (dropE x y es).map enEdge, ex', rfl, upd_eq _ _ _, ?_⟩
      have : upd (upd H2 o ⟨3, (dropE x y es).map enEdge ++ ex'⟩) o ⟨3, (dropE x y es).map enEdge⟩ = upd H o ⟨3, (dropE x y es).map enEdge⟩ := by
        rcases hH2 with rfl | ⟨x, rfl⟩
        · rw [upd_upd]
        · rw [upd_upd, upd_upd]
      rw [this]
      exact h _ _ (upd H0 o ⟨3, (dropE x y es).map enEdge⟩) (.inr ⟨o, none, ho0, by simp, by simp, rfl⟩) (sub_upd2 h0H)
    have hne1 : o1 ≠ o := by rintro rfl; rw [h1] at ho0; cases ho0
    have hne2 : o2 ≠ o := by rintro rfl; rw [h2] at ho0; cases ho0
    cases cap with
    | none =>
      refine ACalls.opened ho hlm fun c ex hx hcx => ?_
      exact (deleteF_core (upd_eq _ _ _) (fun r hr => hx r hr) hcx hl (by rw [upd_off hne1]; exact h1H) (by rw [upd_off hne2]; exact h2H)).closed (fin (.inr ⟨_, rfl⟩))
    | some c =>
      have := hc c rfl
      subst this
      exact (deleteF_core (ex := []) (by simpa using ho) (by simp) (by simp) hl h1H h2H).closed (fin (.inl rfl))
end Go.Proofs.YtohicpepcjgnaaaGreat
/-
Contracts: an edge of a graph is set.
-/
namespace Go.Proofs.YtohicpepcjgnaaaGreat
open Go Go.Abs Go.Proofs

theorem E_i_compareEdges : enterable P n_i_compareEdges = true := by kernel_rfl
def cmpE (a b : TEdge) : Int := if a.1 ≠ b.1 then a.1 - b.1 else a.2.1 - b.2.1
theorem cmpE_lt {a b : TEdge} : cmpE a b < 0 ↔ elt a b := by
  unfold cmpE elt
  split <;> omega
theorem C_cmpE {a b : TEdge} {H : Heap} {K : V → Heap → Prop} (ha : eOk 10 a) (hb : (0 ≤ b.1 ∧ b.1 < 10) ∧ 0 ≤ b.2.1 ∧ b.2.1 < 10) (h : K (.int .i64 (cmpE a b)) H) : ACalls P n_i_compareEdges [.agg (enEdge a), .agg (enEdge b)] H K := by
  unfold eOk at ha
  refine C_i_compareEdges ?_
  rw [i64_in (n := a.1 - b.1) (by omega) (by omega), i64_in (n := a.2.1 - b.2.1) (by omega) (by omega)]
  exact h
def InvBe (es : List TEdge) (e : TEdge) (H : Heap) (m : Nat) (ys : List V) (Hc : Heap) : Prop :=
  ∃ lo hi : Nat, lo ≤ hi ∧ hi ≤ es.length ∧ ys = [.int .i64 (lo : Nat), .int .i64 (hi : Nat)] ∧ m = hi - lo ∧ Hc = H ∧ (∀ j, (h : j < es.length) → j < lo → elt es[j] e) ∧ ∀ j, hi ≤ j → (h : j < es.length) → ¬ elt es[j] e
set_option maxHeartbeats 1000000 in
theorem C_find_Edge {es : List TEdge} {u : V} {e : TEdge} {H : Heap} {K : V → Heap → Prop} (hv : Rd H 3 u (es.map enEdge)) (hl : es.length ≤ 60) (hp : es.Pairwise elt) (hes : ∀ f ∈ es, eOk 10 f) (he : (0 ≤ e.1 ∧ e.1 < 10) ∧ 0 ≤ e.2.1 ∧ e.2.1 < 10)
    (h : ∀ (i : Nat) (b : Bool), i ≤ es.length → (∀ j, (h : j < es.length) → j < i → elt es[j] e) → (∀ j, i ≤ j → (h : j < es.length) → ¬ elt es[j] e) → K (.tup [.int .i64 (i : Nat), .bool b]) H) : ACalls P n_slices_BinarySearchFunc_i_Edge_i_Edge_i_Edge [u, .agg (enEdge e), .fn n_i_compareEdges []] H K := by
  have hpw := List.pairwise_iff_getElem.1 hp
  apply W_slices_BinarySearchFunc_i_Edge_i_Edge_i_Edge
  unfold F_slices_BinarySearchFunc_i_Edge_i_Edge_i_Edge
  simp [hv.len]
  refine ⟨InvBe es e H, ⟨es.length, Shr.of ⟨0, es.length, by omega, by omega, rfl, by omega, rfl, fun j _ hj => absurd hj (by omega), fun j hj hj2 => absurd hj (by omega)⟩⟩, ?_⟩
  rintro m ys Hc ⟨lo, hi, h1, h2, rfl, rfl, rfl, h3, h4⟩
  simp
  refine ⟨fun hlt => ?_, fun hge => ?_⟩
  · have e1 : IntKind.i64.wrap ((lo : Int) + hi) = ((lo + hi : Nat) : Int) := by rw [i64_in (by omega) (by omega)]; simp
    rw [e1, midE _ (by omega)]
    simp
    generalize hmid : (lo + hi) / 2 = q
    have hq : lo ≤ q ∧ q < hi := by omega
    have e2 : (((lo : Int) + hi) / 2) = (q : Int) := by omega
    simp only [e2]
    rw [i64_in (n := (q : Int)) (by omega) (by omega)]
    refine ⟨Hc, Abs.sub_refl _, ?_⟩
    have hqn : q < es.length := by omega
    have hgd : (es.map enEdge).getD q [] = enEdge es[q] := by simp [hqn]
    refine hv.idx (by omega) (by simp; omega) fun p hpp => ?_
    simp only [Int.toNat_natCast, hgd] at hpp
    rw [hpp.ld]
    simp
    simp only [callK]
    rw [E_i_compareEdges]
    show ACalls P n_i_compareEdges [.agg (enEdge es[q]), .agg (enEdge e)] Hc _
    refine C_cmpE (hes _ (List.getElem_mem hqn)) he ⟨Abs.sub_refl _, ?_⟩
    rw [i64_in (n := (q : Int) + 1) (by omega) (by omega)]
    simp
    refine ⟨fun hh => ?_, fun hh => ?_⟩
    · rw [cmpE_lt] at hh
      exact ⟨hi - (q + 1), by omega, Shr.of ⟨q + 1, hi, by omega, by omega, by simp, rfl, rfl, fun j hj hjq => by
        by_cases e : j = q
        · subst e; exact hh
        · exact elt_trans (hpw j q hj hqn (by omega)) hh, h4⟩⟩
    · have hh : ¬ elt es[q] e := by rw [← cmpE_lt]; omega
      exact ⟨q - lo, by omega, Shr.of ⟨lo, q, by omega, by omega, by simp, rfl, rfl, h3, fun j hj hjl hjj => by
        by_cases e : j = q
        · subst e; exact hh hjj
        · exact hh (elt_trans (hpw q j hqn hjl (by omega)) hjj)⟩⟩
  · have : lo = hi := by omega
    subst this
    refine ⟨Hc, Abs.sub_refl _, ?_⟩
    refine ⟨fun hlt => ?_, fun hge => ?_⟩
    · have hgd : (es.map enEdge).getD lo [] = enEdge es[lo] := by simp [hlt]
      refine hv.idx (by omega) (by simpa using hlt) fun p hpp => ?_
      simp only [Int.toNat_natCast, hgd] at hpp
      rw [hpp.ld]
      simp
      simp only [callK]
      rw [E_i_compareEdges]
      show ACalls P n_i_compareEdges [.agg (enEdge es[lo]), .agg (enEdge e)] Hc _
      refine C_cmpE (hes _ (List.getElem_mem hlt)) he ⟨Abs.sub_refl _, ?_⟩
      simp
      exact Ret.of (h _ _ h2 h3 h4)
    · exact Ret.of (h _ _ h2 h3 h4)
theorem lows_take {es : List TEdge} {e : TEdge} {i : Nat} (h3 : ∀ j, (h : j < es.length) → j < i → elt es[j] e) (h4 : ∀ j, i ≤ j → (h : j < es.length) → ¬ elt es[j] e) (hk : ∀ f ∈ es, ¬ (f.1 = e.1 ∧ f.2.1 = e.2.1)) : putE e es = putAt es i e := by
  have a1 : ∀ f ∈ es.take i, elt f e := fun f hf => by
    obtain ⟨j, hj, rfl⟩ := List.mem_iff_getElem.1 hf
    simp at hj
    rw [List.getElem_take]
    exact h3 j (by omega) (by omega)
  have a2 : ∀ f ∈ es.drop i, elt e f := fun f hf => by
    have hm := List.mem_of_mem_drop hf
    obtain ⟨j, hj, rfl⟩ := List.mem_iff_getElem.1 hf
    have q := hk _ hm
    rw [List.getElem_drop] at q ⊢
    have q2 := h4 (i + j) (by omega) (by simp at hj; omega)
    unfold elt at *
    omega
  have e1 : lows e es = es.take i := by
    have : lows e es = lows e (es.take i ++ es.drop i) := by rw [List.take_append_drop]
    rw [this]
    unfold lows
    rw [List.filter_append, List.filter_eq_self.2 (fun f hf => by simpa using a1 f hf), List.filter_eq_nil_iff.2 (fun f hf => by simpa using elt_asymm (a2 f hf)), List.append_nil]
  have e2 : highs e es = es.drop i := by
    have : highs e es = highs e (es.take i ++ es.drop i) := by rw [List.take_append_drop]
    rw [this]
    unfold highs
    rw [List.filter_append, List.filter_eq_nil_iff.2 (fun f hf => by simpa using elt_asymm (a1 f hf)), List.filter_eq_self.2 (fun f hf => by simpa using a2 f hf), List.nil_append]
  unfold putE
  rw [e1, e2]
def setE (x y c : Int) (es : List TEdge) : List TEdge := if 0 < c then putE (x, y, c) es else dropE x y es
set_option maxHeartbeats 1000000 in
theorem C_i_Graph_setEdge {n x y c : Int} {es : List TEdge} {v : V} {H : Heap} {K : V → Heap → Prop} (hv : Rb false H 3 v (es.map enEdge)) (hl : es.length ≤ 60) (hp : es.Pairwise elt) (hes : ∀ f ∈ es, eOk 10 f) (hx : 0 ≤ x ∧ x < 10) (hy : 0 ≤ y ∧ y < 10)
    (h : ∀ u H', Held H 3 ((setE x y c es).map enEdge) u H' → K (.agg [.int .i64 n, u]) H') : ACalls P n_i_Graph_setEdge [.agg [.int .i64 n, v], .int .i64 x, .int .i64 y, .int .i64 c] H K := by
  have hc := hv.1.cell
  apply W_i_Graph_setEdge
  unfold F_i_Graph_setEdge
  simp [hc]
  intro o1 ho1 o2 ho2
  have hne : o2 ≠ o1 := fun hh => by subst hh; rw [upd_eq] at ho2; cases ho2
  have b1 : (upd (upd H o1 ⟨1, [[.int .i64 x]]⟩) o2 ⟨1, [[.int .i64 y]]⟩) o1 = some ⟨1, [[.int .i64 x]]⟩ := by rw [upd_off hne.symm, upd_eq]
  have b2 : (upd (upd H o1 ⟨1, [[.int .i64 x]]⟩) o2 ⟨1, [[.int .i64 y]]⟩) o2 = some ⟨1, [[.int .i64 y]]⟩ := upd_eq _ _ _
  have hsB : Abs.sub H (upd (upd H o1 ⟨1, [[.int .i64 x]]⟩) o2 ⟨1, [[.int .i64 y]]⟩) := sub_trans (sub_fresh ho1) (sub_fresh ho2)
  generalize upd (upd H o1 (⟨1, [[.int .i64 x]]⟩ : Ob)) o2 (⟨1, [[.int .i64 y]]⟩ : Ob) = B at *
  refine C_i_ownGraph (hv.mono hsB) (by omega) fun u H3 hu => ?_
  have cu := hu.cell
  simp [stz_eq, putCells, cu]
  refine C_DeleteFunc_Edge hu (Abs.sub_refl _) b1 b2 (by omega) fun v4 H4 H4' q1 q2 => ?_
  have c4 := q1.cell
  have b1' := q2 _ _ (q1.sub _ _ b1)
  have b2' := q2 _ _ (q1.sub _ _ b2)
  simp [stz_eq, putCells, c4, aLd_at b1', aLd_at b2', fillZ]
  unfold setE at h
  have hwd : ∀ r ∈ (dropE x y es).map enEdge, r.length = 3 := fun r hr => by
    obtain ⟨f, _, rfl⟩ := List.mem_map.1 hr
    rfl
  refine ⟨fun hpos => ?_, fun hneg => ?_⟩
  · rw [if_pos hpos] at h
    have hdl : (dropE x y es).length ≤ es.length := List.length_filter_le ..
    refine C_find_Edge (e := (x, y, c)) ((q1.sl hwd).1.mono q2) (by omega) (pw_drop hp) (fun f hf => hes f (mem_drop.1 hf).1) ⟨hx, hy⟩ fun i bb h2 h3 h4 => ?_
    have hput := lows_take h3 h4 fun f hf => (mem_drop.1 hf).2
    have hpd := put_drop (e := (x, y, c)) hp
    simp only at hpd
    rw [hpd] at hput
    simp [aExtract, bsl_one]
    intro o5 ho5
    refine C_InsertE_rows q1 (sub_trans q2 (sub_fresh ho5)) (upd_eq _ _ _) (sub_none q2 ho5) (by simpa using h2) (by simp; omega) fun v6 H6 H6' p1 p2 => ?_
    have c6 := p1.cell
    simp [stz_eq, putCells, c6]
    have p1' : Held B 3 ((putE (x, y, c) es).map enEdge) v6 H6' := by
      rw [hput]
      simpa [putAt, List.map_take, List.map_drop] using p1
    obtain ⟨Hy, y1, y2⟩ := p1'.shrink hsB
    exact Ret.shr (h _ _ y1) rfl (sub_trans y2 p2)
  · rw [if_neg (by omega)] at h
    obtain ⟨Hy, y1, y2⟩ := q1.shrink hsB
    exact Ret.shr (h _ _ y1) rfl (sub_trans y2 q2)
end Go.Proofs.YtohicpepcjgnaaaGreat
/-
Contracts: a link of a net is set, in place.
-/
namespace Go.Proofs.YtohicpepcjgnaaaGreat
open Go Go.Abs Go.Proofs

theorem NB.rb {c : Bool} {H0 H : Heap} {o : Nat} {a : TNet} {e d w : V} (h : NB c H0 o a e d w H) : Rb false H 3 e (a.up.es.map enEdge) := by
  obtain ⟨H1, H2, q1, q2, q3⟩ := nb_parts h
  refine ((q1.rb fun r hr => ?_).mono q2.sub).mono q3.sub
  obtain ⟨x, _, rfl⟩ := List.mem_map.1 hr
  rfl
/-- The links of the net are other ones. -/
theorem NB.setUp {c : Bool} {H0 Hn Hb H2 : Heap} {o : Nat} {a : TNet} {e d w u : V} {es' : List TEdge} (h : NB c H0 o a e d w Hn) (hs : Abs.sub Hn Hb) (hu : Held Hb 3 (es'.map enEdge) u H2) :
    ∃ B Hn', Abs.sub H0 B ∧ NB c B o ⟨⟨a.up.n, es'⟩, a.dbs, a.wires, a.lost⟩ u d w Hn' ∧ Abs.sub Hn' (upd H2 o ⟨5, [netRow ⟨⟨a.up.n, es'⟩, a.dbs, a.wires, a.lost⟩ u d w]⟩) := by
  obtain ⟨H1, H2', q1, q2, q3⟩ := nb_parts h
  obtain ⟨Y1, rfl, hY1, p1⟩ := held_unbox q1 h.fresh
  obtain ⟨Y2, rfl, hY2, p2⟩ := dp_unbox q2 hY1
  obtain ⟨Hz, u1, u2⟩ := hu.shrink hs
  obtain ⟨Hm, k1, k2⟩ := Dp.heldUnder q3 u1
  obtain ⟨Y3, rfl, hY3, k3⟩ := held_unbox k1 hY2
  obtain ⟨Y4, k4, k5⟩ := Dp.heldUnder p2 k3
  have hY4 := sub_none k5.sub hY3
  refine ⟨Y1, upd Hz o ⟨5, [netRow ⟨⟨a.up.n, es'⟩, a.dbs, a.wires, a.lost⟩ u d w]⟩, p1.sub, ⟨hY1, ?_⟩, sub_upd2 u2⟩
  have k6 := dp_rebase (o := o) ⟨5, [netRow ⟨⟨a.up.n, es'⟩, a.dbs, a.wires, a.lost⟩ u d w]⟩ k2 (by rw [upd_eq]; simp)
  rw [upd_upd] at k6
  exact Dp.net (a := ⟨⟨a.up.n, es'⟩, a.dbs, a.wires, a.lost⟩) (held_box _ k4 hY4) (dp_box _ k5 hY3) k6
theorem setE_ok {n x y t : Int} {es : List TEdge} (hg : graphOk n es) (hn : n ≤ 6) (hx : 0 ≤ x ∧ x < n) (hy : 0 ≤ y ∧ y < n) (hne : x ≠ y) (ht : 0 ≤ t ∧ t ≤ 1000) : (∀ f ∈ setE x y t es, eOk 10 f) ∧ (setE x y t es).Pairwise elt ∧ (setE x y t es).length ≤ 60 := by
  have hg' := graph_iff.1 hg
  have h3 : ∀ f ∈ setE x y t es, eOk n f := fun f hf => by
    unfold setE at hf
    split at hf
    · rw [mem_put] at hf
      rcases hf with rfl | ⟨hf, _⟩
      · unfold eOk; simp only; omega
      · exact hg'.2.2.1 _ hf
    · exact hg'.2.2.1 _ (mem_drop.1 hf).1
  have h4 : (setE x y t es).Pairwise elt := by
    unfold setE
    split
    · exact pw_put hg'.2.2.2
    · exact pw_drop hg'.2.2.2
  exact ⟨fun f hf => (by have := h3 f hf; unfold eOk at *; omega), h4, edges_few h4 fun f hf => eOk_six hn (h3 f hf)⟩
theorem setE_two {x y t : Int} {es : List TEdge} (ht : 0 ≤ t) : setE y x t (setE x y t es) = linked x y t es := by
  unfold setE linked
  by_cases h : 0 < t
  · rw [if_pos h, if_pos h, if_neg (by omega)]
  · rw [if_neg h, if_neg h, if_pos (by omega)]
set_option maxHeartbeats 4000000 in
theorem C_i_SetLink {c : Bool} {a : TNet} {vs : List V} {p q t : Int} {H : Heap} {K : V → Heap → Prop} (hv : (netT false).rd H a vs) (hl : bNet a)
    (h : ∀ us H', Dp (netT false) H (setR a p q t).1 us H' → K (.tup [.agg us, .bool (setR a p q t).2]) H') : ACalls P n_i_SetLink [.agg vs, .int .i64 p, .int .i64 q, .int .i64 t] H K := by
  have hv' := hv
  obtain ⟨e0, d0, w0, rfl, g1, g2, g3⟩ := hv
  have hc := net_cell g1 g2 g3
  apply W_i_SetLink
  unfold F_i_SetLink
  simp [hc]
  refine C_i_NetOk hv' hl ?_
  simp
  unfold setR at h
  have no0 : ¬ (goodS a p q t ∧ setOk a (min p q) (max p q) t) → ∀ us H', Dp (netT false) H a us H' → K (.tup [.agg us, .bool false]) H' := fun q => by
    rw [if_neg q] at h
    exact h
  refine ⟨fun r => own_end hv' hl (Abs.sub_refl _) (no0 fun hh => r hh.1.1), fun hok => ?_⟩
  have hnn : 1 ≤ a.up.n ∧ a.up.n ≤ 10 := hok.1.1
  refine C_i_Graph_isNode g1.1 hnn ?_
  simp
  refine ⟨fun r => own_end hv' hl (Abs.sub_refl _) (no0 fun hh => by have := hh.1.2.1; omega), fun p1 p2 => ?_⟩
  refine C_i_Graph_isNode g1.1 hnn ?_
  simp
  refine ⟨fun r => own_end hv' hl (Abs.sub_refl _) (no0 fun hh => by have := hh.1.2.2.1; omega), fun q1 q2 => ?_⟩
  refine ⟨fun r => own_end hv' hl (Abs.sub_refl _) (no0 fun hh => hh.1.2.2.2.1 r), fun hpq => ?_⟩
  refine C_i_within ?_
  simp
  refine ⟨fun r => own_end hv' hl (Abs.sub_refl _) (no0 fun hh => by have := hh.1.2.2.2.2.1; omega), fun t1 t2 => ?_⟩
  have m1 : 0 ≤ min p q ∧ min p q < a.up.n := by omega
  have m2 : 0 ≤ max p q ∧ max p q < a.up.n := by omega
  have m3 : min p q ≠ max p q := by omega
  have hokA := netOk_at (c := t) hok m1 m2 m3 ⟨t1, t2⟩
  have hn6 := hok.2.1
  have hes := graph_iff.1 hok.1
  have hes10 : ∀ f ∈ a.up.es, eOk 10 f := fun f hf => by
    have := hes.2.2.1 f hf
    unfold eOk at *
    omega
  have hlk : linked p q t a.up.es = linked (min p q) (max p q) t a.up.es := by
    by_cases hle : p ≤ q
    · rw [Int.min_eq_left hle, Int.max_eq_right hle]
    · rw [Int.min_eq_right (by omega), Int.max_eq_left (by omega)]
      exact linked_comm hes.2.2.2 hpq
  obtain ⟨s1, s2, s3⟩ := setE_ok (t := t) hok.1 hn6 ⟨p1, p2⟩ ⟨q1, q2⟩ hpq ⟨t1, t2⟩
  rw [aMins_two, aMaxs_two]
  refine ⟨fun c0 => ?_, fun c0 => ?_⟩
  · refine C_i_Graph_cost g1.1 hok.1 ?_
    simp
    refine ⟨fun hfar => own_end hv' hl (Abs.sub_refl _) (no0 fun hh => hh.1.2.2.2.2.2 ⟨c0, hfar⟩), fun hfar => ?_⟩
    have hgood : goodS a p q t := ⟨hok, ⟨p1, p2⟩, ⟨q1, q2⟩, hpq, ⟨t1, t2⟩, fun hh => hfar hh.2⟩
    have no : ¬ setOk a (min p q) (max p q) t → ∀ us H', Dp (netT false) H a us H' → K (.tup [.agg us, .bool false]) H' := fun u => no0 fun hh => u hh.2
    refine C_i_ownNet (c := false) hv' hl fun us H3 hus => ?_
    have hus' := hus
    obtain ⟨e, d, w, H1, H2, rfl, h1, h2, h3⟩ := net_dp hus
    have ce := h1.cell
    have cd := dpS_cell h2
    have cw := dpS_cell h3
    intro o ho
    rw [aSt_at (upd_eq H3 o _)]
    simp [stz_eq, putCells, ce, cd, cw, aField_box]
    have nb := NB.of hus' ho
    generalize upd H3 o ⟨5, [netRow a e d w]⟩ = Hn at *
    have hs : Abs.sub H Hn := nb.sub
    simp [aLd_at nb.box, ce]
    refine C_i_Graph_setEdge nb.rb hok.1.2.1 hes.2.2.2 hes10 (by omega) (by omega) fun u1 Ha hu1 => ?_
    have hw1 : ∀ r ∈ (setE p q t a.up.es).map enEdge, r.length = 3 := fun r hr => by
      obtain ⟨f, _, rfl⟩ := List.mem_map.1 hr
      rfl
    refine C_i_Graph_setEdge (hu1.rb hw1) s3 s2 s1 (by omega) (by omega) fun u2 Hb hu2 => ?_
    rw [setE_two t1, hlk] at hu2
    have cu2 := hu2.cell
    have hsb : Abs.sub Hn Hb := sub_trans hu1.sub hu2.sub
    rw [aSt_at (hsb _ _ nb.box)]
    simp [stz_eq, putCells, cu2]
    obtain ⟨B0, Hn2, b1, b2, b3⟩ := nb.setUp hu1.sub hu2
    have nbA : NB false B0 o (atN a (min p q) (max p q) t) u2 d w Hn2 := b2
    have hsH : Abs.sub H Hn2 := sub_trans b1 nbA.sub
    generalize upd Hb o ⟨5, [netRow ⟨⟨a.up.n, linked (min p q) (max p q) t a.up.es⟩, a.dbs, a.wires, a.lost⟩ u2 d w]⟩ = H39 at *
    refine C_p_i_Net_announce nbA b3 hokA m1 (fun k1 Y1 e1 d1 w1 H4 Hn4 f1 f2 f3 => ?_) fun k1 H4 f1 => ?_
    rotate_left
    · simp
      exact own_end hv' hl (sub_trans hsH f1) (no fun hh => k1 hh.1)
    simp
    have hok1 := netOk_announce hokA m1 k1
    have hup1 : (announceN (atN a (min p q) (max p q) t) (min p q)).up.n = a.up.n := by rw [up_announce]; rfl
    have hs4 : Abs.sub H Hn4 := sub_trans b1 (sub_trans f1 f2.sub)
    refine C_p_i_Net_announce f2 f3 hok1 (by rw [hup1]; exact m2) (fun k2 Y2 e2 d2 w2 H5 Hn5 f4 f5 f6 => ?_) fun k2 H5 f4 => ?_
    rotate_left
    · simp
      exact own_end hv' hl (sub_trans hs4 f4) (no fun hh => k2 hh.2)
    simp
    have hok2 := netOk_announce hok1 (by rw [hup1]; exact m2) k2
    have hup2 : (announceN (announceN (atN a (min p q) (max p q) t) (min p q)) (max p q)).up.n = a.up.n := by rw [up_announce, hup1]
    have hsY : Abs.sub H Y2 := sub_trans b1 (sub_trans f1 f4)
    rw [if_pos ⟨hgood, k1, k2⟩] at h
    unfold setN telledN at h
    have hdl := hok2.2.2.2.1
    rw [hup2] at hdl
    generalize announceN (announceN (atN a (min p q) (max p q) t) (min p q)) (max p q) = A2 at *
    have hsm := small_of hok2
    obtain ⟨Z1, Z2, e5, d5, nw5⟩ := f5.split
    rw [if_neg (by omega)] at h
    simp [c0]
    exact net_end hsY f5 f6 h
  · have hgood : goodS a p q t := ⟨hok, ⟨p1, p2⟩, ⟨q1, q2⟩, hpq, ⟨t1, t2⟩, fun hh => c0 hh.1⟩
    have hpos : 0 < t := by omega
    have no : ¬ setOk a (min p q) (max p q) t → ∀ us H', Dp (netT false) H a us H' → K (.tup [.agg us, .bool false]) H' := fun u => no0 fun hh => u hh.2
    refine C_i_ownNet (c := false) hv' hl fun us H3 hus => ?_
    have hus' := hus
    obtain ⟨e, d, w, H1, H2, rfl, h1, h2, h3⟩ := net_dp hus
    have ce := h1.cell
    have cd := dpS_cell h2
    have cw := dpS_cell h3
    intro o ho
    rw [aSt_at (upd_eq H3 o _)]
    simp [stz_eq, putCells, ce, cd, cw, aField_box]
    have nb := NB.of hus' ho
    generalize upd H3 o ⟨5, [netRow a e d w]⟩ = Hn at *
    have hs : Abs.sub H Hn := nb.sub
    simp [aLd_at nb.box, ce]
    refine C_i_Graph_setEdge nb.rb hok.1.2.1 hes.2.2.2 hes10 (by omega) (by omega) fun u1 Ha hu1 => ?_
    have hw1 : ∀ r ∈ (setE p q t a.up.es).map enEdge, r.length = 3 := fun r hr => by
      obtain ⟨f, _, rfl⟩ := List.mem_map.1 hr
      rfl
    refine C_i_Graph_setEdge (hu1.rb hw1) s3 s2 s1 (by omega) (by omega) fun u2 Hb hu2 => ?_
    rw [setE_two t1, hlk] at hu2
    have cu2 := hu2.cell
    have hsb : Abs.sub Hn Hb := sub_trans hu1.sub hu2.sub
    rw [aSt_at (hsb _ _ nb.box)]
    simp [stz_eq, putCells, cu2]
    obtain ⟨B0, Hn2, b1, b2, b3⟩ := nb.setUp hu1.sub hu2
    have nbA : NB false B0 o (atN a (min p q) (max p q) t) u2 d w Hn2 := b2
    have hsH : Abs.sub H Hn2 := sub_trans b1 nbA.sub
    generalize upd Hb o ⟨5, [netRow ⟨⟨a.up.n, linked (min p q) (max p q) t a.up.es⟩, a.dbs, a.wires, a.lost⟩ u2 d w]⟩ = H39 at *
    refine C_p_i_Net_announce nbA b3 hokA m1 (fun k1 Y1 e1 d1 w1 H4 Hn4 f1 f2 f3 => ?_) fun k1 H4 f1 => ?_
    rotate_left
    · simp
      exact own_end hv' hl (sub_trans hsH f1) (no fun hh => k1 hh.1)
    simp
    have hok1 := netOk_announce hokA m1 k1
    have hup1 : (announceN (atN a (min p q) (max p q) t) (min p q)).up.n = a.up.n := by rw [up_announce]; rfl
    have hs4 : Abs.sub H Hn4 := sub_trans b1 (sub_trans f1 f2.sub)
    refine C_p_i_Net_announce f2 f3 hok1 (by rw [hup1]; exact m2) (fun k2 Y2 e2 d2 w2 H5 Hn5 f4 f5 f6 => ?_) fun k2 H5 f4 => ?_
    rotate_left
    · simp
      exact own_end hv' hl (sub_trans hs4 f4) (no fun hh => k2 hh.2)
    simp
    have hok2 := netOk_announce hok1 (by rw [hup1]; exact m2) k2
    have hup2 : (announceN (announceN (atN a (min p q) (max p q) t) (min p q)) (max p q)).up.n = a.up.n := by rw [up_announce, hup1]
    have hsY : Abs.sub H Y2 := sub_trans b1 (sub_trans f1 f4)
    rw [if_pos ⟨hgood, k1, k2⟩] at h
    unfold setN telledN at h
    have hdl := hok2.2.2.2.1
    rw [hup2] at hdl
    generalize announceN (announceN (atN a (min p q) (max p q) t) (min p q)) (max p q) = A2 at *
    have hsm := small_of hok2
    obtain ⟨Z1, Z2, e5, d5, nw5⟩ := f5.split
    rw [if_pos hpos] at h
    have hszd : ∀ db ∈ A2.dbs, szd db ≤ 1048576 := fun db hdb => by
      have := small_szd hsm db hdb
      omega
    refine ⟨fun _ => ?_, fun hh => absurd hpos (by omega)⟩
    refine C_p_i_Net_tell (x := min p q) (y := max p q) nw5 f6 d5.rd ⟨m1.1, by omega⟩ hszd hsm.ws hsm.lost fun H6 Hn6 r1 r2 => ?_
    have hf := tell_fits A2 (min p q) (max p q)
    have hdbs2 := d5.rd
    rw [← hf.dbs] at hdbs2
    refine C_p_i_Net_tell (x := max p q) (y := min p q) r1 r2 hdbs2 ⟨m2.1, by rw [hf.dbs]; omega⟩ (by rw [hf.dbs]; exact hszd) (hf.wires hsm.ws) (hf.lost hsm.lost) fun H7 Hn7 r3 r4 => ?_
    obtain ⟨w7, nb7⟩ := NB.sends (hf.trans (tell_fits _ (max p q) (min p q))) e5 d5 r3
    exact net_end hsY nb7 r4 h
end Go.Proofs.YtohicpepcjgnaaaGreat
