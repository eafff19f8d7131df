/-
The law FnTwoWay.
-/
import Derived.Test.YtaippfedjjjpeaaTwoWayP
import Derived.Test.YtaippfedjjjpeaaDrawP
import Derived.Test.YtaippfedjjjpeaaLawAid
set_option linter.all false
namespace Go.Proofs.Ytaippfedjjjpeaa
open Go Go.Abs Go.Proofs

def InvTw (H : Heap) (n : Nat) (m : Nat) (ys : List V) (Hc : Heap) : Prop :=
  ∃ i : Nat, i ≤ n ∧ ys = [.int .i64 (i : Nat)] ∧ m = n - i ∧ Hc = H
set_option maxHeartbeats 4000000 in
theorem C_l_FnTwoWay {v : V} {bs : List (List V)} {H : Heap} {K : V → Heap → Prop} (hv : Rd H 1 v bs) (hb : Bs bs) (hl : bs.length ≤ 9223372036854775807) (hcell : cellsOf v = [v] ∧ cellOk v = true ∧ notAny v = true) (h : ∀ H', K (.bool true) H') : ACalls P n_l_FnTwoWay [v] H K := by
  apply W_l_FnTwoWay
  unfold F_l_FnTwoWay
  refine C_l_big hv.len ?_
  simp
  refine ⟨fun _ => Ret.of (h _), fun _ => ?_⟩
  refine C_w_DrawPrefixesOf hv hb hl hcell fun xs u f H1 hs1 hf hr => ?_
  have cu := rdS_cell hr
  have sz := fits_sz hf (by omega)
  simp [stz_eq, putCells, cu]
  refine C_i_GraphOf (c := false) hr sz fun us H2 h2 => ?_
  obtain ⟨g1, rfl, hg1⟩ := graph_dp h2
  have cg1 := hg1.cell
  have lg1 := (hg1.rd enEdge_len).len
  have hr2 := (dbT false).mono hr h2.sub
  simp [stz_eq, putCells, cu, cg1]
  refine C_s_GraphOf (c := false) hr2 sz fun us H3 h3 => ?_
  obtain ⟨g2, rfl, hg2⟩ := graph_dp h3
  have cg2 := hg2.cell
  have lg2 := (hg2.rd enEdge_len).len
  have hr3 := (dbT false).mono hr2 h3.sub
  have r1 := (hg1.rd enEdge_len).mono hg2.sub
  have r2 := hg2.rd enEdge_len
  clear h2 h3 hg1 hg2
  simp [stz_eq, putCells, cu, cg1, cg2, lg1, lg2]
  refine ⟨fun _ => Ret.of (h _), fun hy => ?_⟩
  obtain ⟨hd, hg⟩ := graph_db hy
  have e : graphR xs = (⟨10, edgesOf xs xs⟩, true) := graph_yes ⟨hd, (graphOf_ok hd).1 hg⟩
  rw [e] at r1 r2 lg1 lg2 ⊢
  have sz' : (edgesOf xs xs).length ≤ 60 := (graphOf_ok hd).1 hg
  simp at r1 r2 lg1 lg2
  refine ⟨InvTw H3 (edgesOf xs xs).length, ⟨(edgesOf xs xs).length, Shr.of ⟨0, by omega, rfl, by omega, rfl⟩⟩, ?_⟩
  rintro m ys Hc ⟨i, hi, rfl, rfl, rfl⟩
  simp
  refine ⟨fun hlt => ?_, fun hge => ?_⟩
  · have hgd : ((edgesOf xs xs).map enEdge).getD i [] = enEdge (edgesOf xs xs)[i] := by simp [hlt]
    have hm : (edgesOf xs xs)[i] ∈ edgesOf xs xs := List.getElem_mem hlt
    generalize (edgesOf xs xs)[i] = ed at hgd hm
    refine ⟨_, Abs.sub_refl _, ?_⟩
    refine r1.idx (by omega) (by simpa using hlt) fun p hp => ?_
    simp only [Int.toNat_natCast, hgd] at hp
    rw [hp.ld]
    simp [enEdge]
    refine r2.idx (by omega) (by simpa using hlt) fun p2 hp2 => ?_
    simp only [Int.toNat_natCast, hgd] at hp2
    rw [hp2.ld]
    simp [enEdge]
    rw [Q_neq_Edge]
    simp
    refine r1.idx (by omega) (by simpa using hlt) fun p hp => ?_
    simp only [Int.toNat_natCast, hgd] at hp
    refine hp.fld fun q hq => ?_
    rw [hq.ld]
    simp [enEdge]
    refine r1.idx (by omega) (by simpa using hlt) fun p hp => ?_
    simp only [Int.toNat_natCast, hgd] at hp
    refine hp.fld fun q hq => ?_
    rw [hq.ld]
    simp [enEdge]
    refine C_s_CostOf r1 hg ⟨Abs.sub_refl _, ?_⟩
    obtain ⟨c, hc⟩ := edge_back hd hm
    have := cost_edge hg hc
    simp only at this
    rw [i64_in (n := (i : Int) + 1) (by omega) (by omega)]
    simp
    refine ⟨fun q => absurd q this, fun _ => ?_⟩
    exact ⟨(edgesOf xs xs).length - (i + 1), by omega, Shr.of ⟨i + 1, by omega, by simp, rfl, rfl⟩⟩
  · refine C_i_PrefixesOf hr3 sz fun l1 H4 h4 => ?_
    have k1 := flat_dp.1 h4
    have hr4 := (dbT false).mono hr3 h4.sub
    simp
    refine C_s_PrefixesOf hr4 sz fun l2 H5 h5 => ?_
    have k2 := flat_dp.1 h5
    have q1 := (k1.rd enRoute_len).mono h5.sub
    have q2 := k2.rd enRoute_len
    have r1 := r1.mono (sub_trans h4.sub h5.sub)
    have ln1 := q1.len
    have ln2 := q2.len
    have small := pfxR_sz (xs := xs) (f := f)
    unfold bRouteS at small
    simp at ln1 ln2
    simp [ln1, ln2]
    refine ⟨InvTw H5 (pfxR xs f).1.length, ⟨(pfxR xs f).1.length, Shr.of ⟨0, by omega, rfl, by omega, rfl⟩⟩, ?_⟩
    rintro m ys Hc ⟨i, hi, rfl, rfl, rfl⟩
    simp [ln1]
    rw [i64_in (n := (i : Int) + 1) (by omega) (by omega)]
    refine ⟨fun hlt => ?_, fun hge => Ret.of (h _)⟩
    have hgd : ((pfxR xs f).1.map enRoute).getD i [] = enRoute (pfxR xs f).1[i] := by simp [hlt]
    have hm : (pfxR xs f).1[i] ∈ (pfxR xs f).1 := List.getElem_mem hlt
    generalize (pfxR xs f).1[i] = r at hgd hm
    have hh : 0 < r.2.2 → cost 10 (edgesOf xs xs) f (r.2.2 - 1) ≠ 1000000 ∧ (r.2.2 ≤ 10) := fun hp => by
      unfold pfxR at hm
      split at hm
      · rename_i c
        exact ⟨hop_cost hd hg (by omega) hm hp, hop_le hd hg (by omega) hm⟩
      · simp at hm
    refine ⟨_, Abs.sub_refl _, ?_⟩
    refine q1.idx (by omega) (by simpa using hlt) fun p hp => ?_
    simp only [Int.toNat_natCast, hgd] at hp
    rw [hp.ld]
    simp [enRoute]
    refine q2.idx (by omega) (by simpa using hlt) fun p2 hp2 => ?_
    simp only [Int.toNat_natCast, hgd] at hp2
    rw [hp2.ld]
    simp [enRoute]
    rw [Q_neq_Route]
    simp
    refine q1.idx (by omega) (by simpa using hlt) fun p hp => ?_
    simp only [Int.toNat_natCast, hgd] at hp
    refine hp.fld fun q hq => ?_
    rw [hq.ld]
    simp [enRoute]
    refine ⟨fun hpos => ?_, fun hno => ?_⟩
    · obtain ⟨hh, hle⟩ := hh hpos
      refine q1.idx (by omega) (by simpa using hlt) fun p hp => ?_
      simp only [Int.toNat_natCast, hgd] at hp
      refine hp.fld fun q hq => ?_
      rw [hq.ld]
      simp [enRoute]
      rw [i64_in (n := r.2.2 - 1) (by omega) (by omega)]
      refine C_s_CostOf r1 hg ⟨Abs.sub_refl _, ?_⟩
      simp
      refine ⟨fun q => absurd q hh, fun _ => ?_⟩
      exact ⟨(pfxR xs f).1.length - (i + 1), by omega, Shr.of ⟨i + 1, by omega, by simp, rfl, rfl⟩⟩
    · exact ⟨(pfxR xs f).1.length - (i + 1), by omega, Shr.of ⟨i + 1, by omega, by simp, rfl, rfl⟩⟩

end Go.Proofs.Ytaippfedjjjpeaa
