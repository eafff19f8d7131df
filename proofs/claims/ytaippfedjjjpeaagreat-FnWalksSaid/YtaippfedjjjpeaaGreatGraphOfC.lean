/-
Contracts: the graph of a database, by both sides.
-/
import Derived.Test.YtaippfedjjjpeaaGreatGraphF
set_option linter.all false
namespace Go.Proofs.YtaippfedjjjpeaaGreat
open Go Go.Abs Go.Proofs

def eOf (xs : List TLsa) (a : TLsa) (ks : List TLink) : List TEdge := (ks.filter fun k => says xs k.1 a.origin).map fun k => (a.origin, k.1, k.2)
def edgesOf (xs ys : List TLsa) : List TEdge := ys.flatMap fun a => eOf xs a a.links
def graphR (xs : List TLsa) : TGraph × Bool := if dbOk xs ∧ (edgesOf xs xs).length ≤ 60 then (⟨10, edgesOf xs xs⟩, true) else (⟨0, []⟩, false)
theorem eOf_len {xs : List TLsa} {a : TLsa} {ks : List TLink} : (eOf xs a ks).length ≤ ks.length := by unfold eOf; rw [List.length_map]; exact List.length_filter_le _ _
theorem edgesOf_len (xs : List TLsa) : ∀ ys : List TLsa, (edgesOf xs ys).length ≤ sumF szl ys
  | [] => by simp [edgesOf]
  | a :: ys => by
    have := edgesOf_len xs ys
    have e : sumF szl (a :: ys) = szl a + sumF szl ys := by simp [sumF]
    have := eOf_len (xs := xs) (a := a) (ks := a.links)
    have e2 : edgesOf xs (a :: ys) = eOf xs a a.links ++ edgesOf xs ys := by simp [edgesOf]
    have e3 : szl a = a.links.length + a.stubs.length := rfl
    rw [e, e2, List.length_append]
    omega
theorem edgesOf_succ {xs ys : List TLsa} {i : Nat} (h : i < ys.length) : edgesOf xs (ys.take (i + 1)) = edgesOf xs (ys.take i) ++ eOf xs ys[i] ys[i].links := by
  unfold edgesOf
  rw [List.take_succ_eq_append_getElem h, List.flatMap_append]
  simp
theorem eOf_succ {xs : List TLsa} {a : TLsa} {ks : List TLink} {i : Nat} (h : i < ks.length) : eOf xs a (ks.take (i + 1)) = if says xs ks[i].1 a.origin = true then eOf xs a (ks.take i) ++ [(a.origin, ks[i].1, ks[i].2)] else eOf xs a (ks.take i) := by
  unfold eOf
  rw [List.take_succ_eq_append_getElem h, List.filter_append, List.map_append]
  generalize List.take i ks = ys
  split <;> rename_i e <;> simp [e]
theorem lto_lt {o : Int} {ls : List TLink} (h : lksOk o ls) {i j : Nat} (hij : i < j) (hj : j < ls.length) : lto ls i < lto ls j := by
  induction j with
  | zero => omega
  | succ j ih =>
    have h2 := (h (j + 1) hj).2.2.2 (by omega)
    simp only [Nat.add_sub_cancel] at h2
    by_cases e : i = j
    · subst e; exact h2
    · have := ih (by omega) (by omega)
      unfold lto at *
      omega
abbrev lexE (a b : TEdge) : Prop := a.1 < b.1 ∨ a.1 = b.1 ∧ a.2.1 < b.2.1
theorem eOf_pw {xs : List TLsa} {a : TLsa} (h : lksOk a.origin a.links) : (eOf xs a a.links).Pairwise lexE := by
  unfold eOf
  rw [List.pairwise_map]
  refine List.Pairwise.filter _ ?_
  rw [List.pairwise_iff_getElem]
  intro i j hi hj hij
  have := lto_lt h hij hj
  rw [lto_get hi, lto_get hj] at this
  exact .inr ⟨rfl, this⟩
theorem eOf_mem {xs : List TLsa} {a : TLsa} {e : TEdge} (ha : lsaOk a) (h : e ∈ eOf xs a a.links) : e.1 = a.origin ∧ (0 ≤ e.2.1 ∧ e.2.1 < 10) ∧ e.1 ≠ e.2.1 ∧ (1 ≤ e.2.2 ∧ e.2.2 ≤ 1000) := by
  unfold eOf at h
  obtain ⟨k, hk, rfl⟩ := List.mem_map.1 h
  obtain ⟨i, hi, rfl⟩ := List.mem_iff_getElem.1 (List.mem_filter.1 hk).1
  have := ha.2.2.2.2.2.1 i hi
  unfold lkOk at this
  rw [lk_get hi] at this
  refine ⟨rfl, by simp only; omega, fun hh => this.2.1 hh.symm, this.2.2.1⟩
theorem edgesOf_pw {xs : List TLsa} (h : dbOk xs) : (edgesOf xs xs).Pairwise lexE := by
  unfold edgesOf
  rw [List.pairwise_flatMap]
  refine ⟨fun a ha => ?_, ?_⟩
  · obtain ⟨i, hi, rfl⟩ := List.mem_iff_getElem.1 ha
    exact eOf_pw (h.1 i hi).2.2.2.2.2.1
  · rw [List.pairwise_iff_getElem]
    intro i j hi hj hij x hx y hy
    have := og_lt h hij hj
    rw [og_get hi, og_get hj] at this
    have e1 := (eOf_mem (h.1 i hi) hx).1
    have e2 := (eOf_mem (h.1 j hj) hy).1
    exact .inl (by omega)
theorem edgesOf_mem {xs : List TLsa} (h : dbOk xs) {e : TEdge} (he : e ∈ edgesOf xs xs) : (0 ≤ e.1 ∧ e.1 < 10) ∧ (0 ≤ e.2.1 ∧ e.2.1 < 10) ∧ e.1 ≠ e.2.1 ∧ (1 ≤ e.2.2 ∧ e.2.2 ≤ 1000) := by
  unfold edgesOf at he
  obtain ⟨a, ha, hx⟩ := List.mem_flatMap.1 he
  obtain ⟨i, hi, rfl⟩ := List.mem_iff_getElem.1 ha
  have := eOf_mem (h.1 i hi) hx
  have ho := (h.1 i hi).1
  exact ⟨by omega, this.2⟩
theorem graphOf_ok {xs : List TLsa} (h : dbOk xs) : graphOk 10 (edgesOf xs xs) ↔ (edgesOf xs xs).length ≤ 60 := by
  refine ⟨fun hh => hh.2.1, fun hl => ⟨by omega, hl, fun i hi => ?_⟩⟩
  have hm := edgesOf_mem h (List.getElem_mem hi)
  unfold okAt
  rw [ed_get hi]
  refine ⟨hm.1, hm.2.1, hm.2.2.1, hm.2.2.2, fun h0 => ?_⟩
  rw [ed_get (show i - 1 < (edgesOf xs xs).length by omega)]
  exact List.pairwise_iff_getElem.1 (edgesOf_pw h) (i - 1) i (by omega) hi (by omega)
theorem graphR_sz {xs : List TLsa} : bGraph (graphR xs).1 := by
  unfold graphR bGraph
  split
  · rename_i h; have := h.2; simp only; omega
  · simp
theorem graph_no {xs : List TLsa} (h : ¬ (dbOk xs ∧ (edgesOf xs xs).length ≤ 60)) : graphR xs = (⟨0, []⟩, false) := by unfold graphR; rw [if_neg h]
theorem graph_yes {xs : List TLsa} (h : dbOk xs ∧ (edgesOf xs xs).length ≤ 60) : graphR xs = (⟨10, edgesOf xs xs⟩, true) := by unfold graphR; rw [if_pos h]
theorem zero_g {c : Bool} {H : Heap} : Dp (graphT c) H ⟨0, []⟩ [.int .i64 0, .nils] H := Dp.graph (a := ⟨0, []⟩) Held.nil

def InvGo1 (H : Heap) (xs : List TLsa) (w : V) (m : Nat) (ys : List V) (Hc : Heap) : Prop :=
  ∃ (i : Nat) (u : V), i ≤ xs.length ∧ ys = [.box [w], .box [.int .i64 0, .nils], .box [.int .i64 10, u], .int .i64 (i : Nat)] ∧ m = xs.length - i ∧ Held H 3 ((edgesOf xs (xs.take i)).map enEdge) u Hc
def InvGo2 (H : Heap) (xs : List TLsa) (w : V) (i : Nat) (a : TLsa) (l s : V) (m : Nat) (ys : List V) (Hc : Heap) : Prop :=
  ∃ (k : Nat) (u : V), k ≤ a.links.length ∧ ys = [.box [w], .box [.int .i64 0, .nils], .box [.int .i64 10, u], .box (lsaRow a l s), .int .i64 (k : Nat)] ∧ m = a.links.length - k ∧ Held H 3 ((edgesOf xs (xs.take i) ++ eOf xs a (a.links.take k)).map enEdge) u Hc
set_option maxHeartbeats 1000000 in
theorem C_s_GraphOf {b c : Bool} {xs : List TLsa} {w : V} {H : Heap} {K : V → Heap → Prop} (hv : (dbT b).rd H xs [w]) (hl : xs.length + sumF szl xs ≤ 1048576)
    (h : ∀ us H', Dp (graphT c) H (graphR xs).1 us H' → K (.tup [.agg us, .bool (graphR xs).2]) H') : ACalls P n_s_GraphOf [.agg [w]] H K := by
  have hc := rdS_cell hv
  apply W_s_GraphOf
  unfold F_s_GraphOf
  simp [hc]
  refine C_s_DbOk hv ?_
  simp [fillZ, stz_eq, putCells]
  refine ⟨fun q => ?_, fun hd => ?_⟩
  · rw [graph_no fun hh => q hh.1] at h
    exact Ret.of (h _ _ zero_g)
  have hlen := db_len hd
  refine ⟨InvGo1 H xs w, ⟨xs.length, Shr.of ⟨0, .nils, by omega, rfl, by omega, by simpa [edgesOf] using Held.nil⟩⟩, ?_⟩
  rintro m ys Hc ⟨i, u, hi, rfl, rfl, hu⟩
  have cu := hu.cell
  simp [hc, rdS_len hv]
  refine ⟨fun hlt => ?_, fun hge => ?_⟩
  · refine rdS_at hv hu.sub (by omega) (by simpa using hlt) fun p row hp hr => ?_
    simp only [Int.toNat_natCast] at hr
    obtain ⟨l, s, rfl, g1, g2⟩ := hr
    have hcc := lsa_cell g1 g2
    have ha := hd.1 i hlt
    have hz : sumF szl (xs.take (i + 1)) ≤ sumF szl xs := sumF_le (i + 1)
    have hz1 := sumF_succ (f := szl) hlt
    have hz' : szl xs[i] = xs[i].links.length + xs[i].stubs.length := rfl
    have hel := edgesOf_len xs (xs.take i)
    have hes := edgesOf_succ (xs := xs) hlt
    rw [hp.ld]
    generalize xs[i] = a at *
    simp [stz_eq, putCells, hcc]
    have hll := ha.2.2.2.1
    have rl := g1.1
    refine ⟨InvGo2 H xs w i a l s, ⟨a.links.length, Shr.of ⟨0, u, by omega, rfl, by omega, by simpa [eOf] using hu⟩⟩, ?_⟩
    rintro m ys Hd ⟨k, u, hk, rfl, rfl, hu⟩
    have cu := hu.cell
    simp [hcc, rl.len, hc]
    refine ⟨fun hlt2 => ?_, fun hge2 => ?_⟩
    · refine ⟨_, Abs.sub_refl _, ?_⟩
      have rl := rl.mono hu.sub
      have hrow : (a.links.map enLink).getD k [] = enLink a.links[k] := by simp [hlt2]
      refine rl.idx (by omega) (by simpa using hlt2) fun p hp => ?_
      simp only [Int.toNat_natCast, hrow] at hp
      refine hp.fld fun p1 hp1 => ?_
      rw [hp1.ld]
      simp
      refine C_s_l06Says ((dbT b).mono hv hu.sub) hl ⟨Abs.sub_refl _, ?_⟩
      have hsc := eOf_succ (xs := xs) (a := a) hlt2
      have hel2 := eOf_len (xs := xs) (a := a) (ks := a.links.take k)
      simp at hel2
      rw [i64_in (n := (k : Int) + 1) (by omega) (by omega)]
      cases hsay : says xs a.links[k].1 a.origin
      · rw [if_neg (by simp [hsay])] at hsc
        simp
        exact ⟨a.links.length - (k + 1), by omega, Shr.of ⟨k + 1, u, by omega, by simp, rfl, by rw [hsc]; exact hu⟩⟩
      · rw [if_pos hsay] at hsc
        simp
        refine rl.idx (by omega) (by simpa using hlt2) fun p hp => ?_
        simp only [Int.toNat_natCast, hrow] at hp
        refine hp.fld fun p1 hp1 => ?_
        rw [hp1.ld]
        simp
        refine rl.idx (by omega) (by simpa using hlt2) fun p hp => ?_
        simp only [Int.toNat_natCast, hrow] at hp
        refine hp.fld fun p1 hp1 => ?_
        rw [hp1.ld]
        simp [bsl_one]
        intro o ho
        refine hu.append (sub_fresh ho) (by simp) (by simp; omega) fun v' H' H'' ho' hs' => ?_
        have cv := ho'.cell
        simp [stz_eq, putCells, cv]
        refine ⟨a.links.length - (k + 1), by omega, H'', hs', k + 1, v', by omega, by simp, rfl, ?_⟩
        rw [hsc, ← List.append_assoc, List.map_append]
        exact ho'
    · have : k = a.links.length := by omega
      subst this
      rw [List.take_length, ← hes] at hu
      rw [i64_in (by omega) (by omega)]
      exact ⟨xs.length - (i + 1), by omega, Shr.of ⟨i + 1, u, by omega, by simp, rfl, hu⟩⟩
  · have : i = xs.length := by omega
    subst this
    rw [List.take_length] at hu
    refine C_s_GraphOk (hu.rd enEdge_len) ?_
    simp [fillZ, stz_eq, putCells, cu]
    refine ⟨fun q => ?_, fun q => ?_⟩
    · rw [graph_no fun hh => q ((graphOf_ok hd).2 hh.2)] at h
      exact Ret.shr (h _ _ zero_g) rfl hu.sub
    · rw [graph_yes ⟨hd, (graphOf_ok hd).1 q⟩] at h
      exact Ret.of (h _ _ (Dp.graph (a := ⟨10, edgesOf xs xs⟩) hu))
set_option maxHeartbeats 1000000 in
theorem C_i_GraphOf {c : Bool} {xs : List TLsa} {w : V} {H : Heap} {K : V → Heap → Prop} (hv : (dbT false).rd H xs [w]) (hl : xs.length + sumF szl xs ≤ 1048576)
    (h : ∀ us H', Dp (graphT c) H (graphR xs).1 us H' → K (.tup [.agg us, .bool (graphR xs).2]) H') : ACalls P n_i_GraphOf [.agg [w]] H K := by
  have hc := rdS_cell hv
  apply W_i_GraphOf
  unfold F_i_GraphOf
  simp [hc]
  refine C_i_DbOk hv hl ?_
  simp [fillZ, stz_eq, putCells]
  refine ⟨fun q => ?_, fun hd => ?_⟩
  · rw [graph_no fun hh => q hh.1] at h
    exact Ret.of (h _ _ zero_g)
  have hlen := db_len hd
  simp [rdS_len hv]
  refine ⟨InvGo1 H xs w, ⟨xs.length, Shr.of ⟨0, .nils, by omega, rfl, by omega, by simpa [edgesOf] using Held.nil⟩⟩, ?_⟩
  rintro m ys Hc ⟨i, u, hi, rfl, rfl, hu⟩
  have cu := hu.cell
  simp
  refine ⟨fun hlt => ?_, fun hge => ?_⟩
  · refine rdS_at hv hu.sub (by omega) (by simpa using hlt) fun p row hp hr => ?_
    simp only [Int.toNat_natCast] at hr
    obtain ⟨l, s, rfl, g1, g2⟩ := hr
    have hcc := lsa_cell g1 g2
    have ha := hd.1 i hlt
    have hz : sumF szl (xs.take (i + 1)) ≤ sumF szl xs := sumF_le (i + 1)
    have hz1 := sumF_succ (f := szl) hlt
    have hz' : szl xs[i] = xs[i].links.length + xs[i].stubs.length := rfl
    have hel := edgesOf_len xs (xs.take i)
    have hes := edgesOf_succ (xs := xs) hlt
    rw [hp.ld]
    generalize xs[i] = a at *
    have hll := ha.2.2.2.1
    have rl := g1.1
    simp [stz_eq, putCells, hcc, hc, rl.len]
    refine ⟨InvGo2 H xs w i a l s, ⟨a.links.length, Shr.of ⟨0, u, by omega, rfl, by omega, by simpa [eOf] using hu⟩⟩, ?_⟩
    rintro m ys Hd ⟨k, u, hk, rfl, rfl, hu⟩
    have cu := hu.cell
    simp
    refine ⟨fun hlt2 => ?_, fun hge2 => ?_⟩
    · have rl := rl.mono hu.sub
      have hrow : (a.links.map enLink).getD k [] = enLink a.links[k] := by simp [hlt2]
      refine rl.idx (by omega) (by simpa using hlt2) fun p hp => ?_
      simp only [Int.toNat_natCast, hrow] at hp
      rw [hp.ld]
      simp [stz_eq, putCells, hc]
      refine C_i_Db_hasLink ((dbT false).mono hv hu.sub) hd hl ?_
      have hsc := eOf_succ (xs := xs) (a := a) hlt2
      have hel2 := eOf_len (xs := xs) (a := a) (ks := a.links.take k)
      simp at hel2
      rw [i64_in (n := (k : Int) + 1) (by omega) (by omega)]
      cases hsay : says xs a.links[k].1 a.origin
      · rw [if_neg (by simp [hsay])] at hsc
        simp
        exact ⟨a.links.length - (k + 1), by omega, Shr.of ⟨k + 1, u, by omega, by simp, rfl, by rw [hsc]; exact hu⟩⟩
      · rw [if_pos hsay] at hsc
        simp [bsl_one, fillZ]
        intro o ho
        refine hu.append (sub_fresh ho) (by simp) (by simp; omega) fun v' H' H'' ho' hs' => ?_
        have cv := ho'.cell
        simp [stz_eq, putCells, cv]
        refine ⟨a.links.length - (k + 1), by omega, H'', hs', k + 1, v', by omega, by simp, rfl, ?_⟩
        rw [hsc, ← List.append_assoc, List.map_append]
        exact ho'
    · have : k = a.links.length := by omega
      subst this
      rw [List.take_length, ← hes] at hu
      rw [i64_in (by omega) (by omega)]
      exact ⟨xs.length - (i + 1), by omega, Shr.of ⟨i + 1, u, by omega, by simp, rfl, hu⟩⟩
  · have : i = xs.length := by omega
    subst this
    rw [List.take_length] at hu
    have hlu := (hu.rd enEdge_len).len
    simp [fillZ, stz_eq, putCells, cu, hlu]
    refine ⟨fun q => ?_, fun q => ?_⟩
    · rw [graph_no fun hh => by have := hh.2; omega] at h
      exact Ret.shr (h _ _ zero_g) rfl hu.sub
    · rw [graph_yes ⟨hd, by omega⟩] at h
      exact Ret.of (h _ _ (Dp.graph (a := ⟨10, edgesOf xs xs⟩) hu))
end Go.Proofs.YtaippfedjjjpeaaGreat
