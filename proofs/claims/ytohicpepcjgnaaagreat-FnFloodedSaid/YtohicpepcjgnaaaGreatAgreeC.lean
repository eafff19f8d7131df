/-
Contracts: agreement.
-/
import Derived.Test.YtohicpepcjgnaaaGreatAgreeP
import Derived.Test.YtohicpepcjgnaaaGreatGraphE
set_option linter.all false
namespace Go.Proofs.YtohicpepcjgnaaaGreat
open Go Go.Abs Go.Proofs

abbrev intT : Ty Int := flatT 1 ri (fun _ => rfl)
abbrev distT (b : Bool) : Ty (List Int) := sliceT b intT
abbrev allT (b : Bool) : Ty (List (List Int)) := sliceT b (distT b)
def dists (n : Int) (es : List TEdge) (k : Nat) : List (List Int) := (List.range k).map fun x : Nat => dist n es (x : Nat)
theorem dists_succ (n : Int) (es : List TEdge) (k : Nat) : dists n es (k + 1) = dists n es k ++ [dist n es (k : Nat)] := by
  unfold dists
  rw [List.range_succ, List.map_append]
  rfl
def InvAll (c : Bool) (H : Heap) (n : Int) (es : List TEdge) (m : Nat) (ys : List V) (Hc : Heap) : Prop :=
  ∃ (i : Nat) (u : V), (i : Int) ≤ n ∧ ys = [u, .int .i64 (i : Nat)] ∧ m = n.toNat - i ∧ Dp (allT c) H (dists n es i) [u] Hc
theorem C_i_Graph_all {c : Bool} {n : Int} {v : V} {es : List TEdge} {H : Heap} {K : V → Heap → Prop} (hv : Rd H 3 v (es.map enEdge)) (hg : graphOk n es)
    (h : ∀ u H', Dp (allT c) H (dists n es n.toNat) [u] H' → K u H') : ACalls P n_i_Graph_all [vG n v] H K := by
  have hc := hv.cell
  have hn := hg.1
  apply W_i_Graph_all
  unfold F_i_Graph_all
  have hb0 : bsl 1 0 [V.nils] [] = some [] := rfl
  simp [hb0, hc]
  intro o2 ho2
  have hnew : Dp (allT c) H [] [.slice o2 0 0 (some 0)] (upd H o2 ⟨1, []⟩) := dpS_new ho2
  refine ⟨InvAll c H n es, ⟨n.toNat, Shr.of ⟨0, .slice o2 0 0 (some 0), by omega, rfl, by omega, by simpa [dists] using hnew⟩⟩, ?_⟩
  rintro m ys Hc ⟨i, u, hi, rfl, rfl, hu⟩
  simp
  refine ⟨fun hlt => ?_, fun hge => ?_⟩
  · refine C_i_Graph_distances (hv.mono hu.sub) hg ⟨by omega, hlt⟩ fun u1 H1 hu1 => ?_
    have c1 := hu1.cell
    simp [bsl_one, c1]
    intro o7 ho7
    have hd1 : Dp (distT c) Hc (dist n es (i : Nat)) [u1] H1 := flat_dp.2 hu1
    refine dpS_app (T := distT c) hu hd1 (sub_fresh ho7) (by simp [dists]; omega) fun v' H' H'' ho' hs' => ?_
    rw [i64_in (n := (i : Int) + 1) (by omega) (by omega)]
    refine ⟨n.toNat - (i + 1), by omega, H'', hs', i + 1, v', by omega, by simp, rfl, ?_⟩
    rw [dists_succ]
    exact ho'
  · have : i = n.toNat := by omega
    subst this
    exact Ret.of (h _ _ hu)
def InvAg (H : Heap) (a : TNet) (m : Nat) (ys : List V) (Hc : Heap) : Prop :=
  ∃ x : Nat, x ≤ a.dbs.length ∧ ys = [.int .i64 (x : Nat)] ∧ m = a.dbs.length - x ∧ Abs.sub H Hc ∧ ∀ i, i < x → ∀ j, j < a.dbs.length → same2 a (i : Nat) (j : Nat)
def InvAh (H : Heap) (a : TNet) (x : Nat) (m : Nat) (ys : List V) (Hc : Heap) : Prop :=
  ∃ y : Nat, y ≤ a.dbs.length ∧ ys = [.int .i64 (y : Nat)] ∧ m = a.dbs.length - y ∧ Abs.sub H Hc ∧ ∀ j, j < y → same2 a (x : Nat) (j : Nat)
theorem db_get {a : TNet} {x : Nat} (hx : x < a.dbs.length) : db a (x : Nat) = a.dbs[x] := by
  unfold db
  rw [Int.toNat_natCast, List.getD_eq_getElem?_getD, List.getElem?_eq_getElem hx]
  rfl
set_option maxHeartbeats 2000000 in
theorem C_s_Agree {b : Bool} {a : TNet} {vs : List V} {H : Heap} {K : V → Heap → Prop} (hv : (netT b).rd H a vs) (hl : bNet a)
    (h : K (.bool (decide (agreeR a))) H) : ACalls P n_s_Agree [.agg vs] H K := by
  have hv' := hv
  obtain ⟨e0, d0, w0, rfl, g1, g2, g3⟩ := hv
  have hc := net_cell g1 g2 g3
  apply W_s_Agree
  unfold F_s_Agree
  simp [hc]
  refine C_s_NetOk hv' hl ?_
  simp
  refine ⟨fun q => Ret.no h fun hh => q hh.1, fun hok => ?_⟩
  have hnl := hok.2.2.2.1
  have hn6 := hok.2.1
  refine ⟨InvAg H a, ⟨a.dbs.length, Shr.of ⟨0, by omega, rfl, by omega, Abs.sub_refl _, fun i hi => absurd hi (by omega)⟩⟩, ?_⟩
  rintro m ys Hc ⟨x, hx, rfl, rfl, hsc, hall⟩
  simp
  refine ⟨fun hlt => ?_, fun hge => ?_⟩
  · have hxl : x < a.dbs.length := by omega
    refine C_s_Distances (g1.1.mono hsc) hok.1 ⟨by omega, hlt⟩ fun u H1 hu => ?_
    have hur : Rd H1 1 u ((dist a.up.n a.up.es (x : Nat)).map ri) := (hu.sl fun r hr => by
      obtain ⟨f, _, rfl⟩ := List.mem_map.1 hr
      rfl).1
    have hs1 : Abs.sub H H1 := sub_trans hsc hu.sub
    refine ⟨InvAh H1 a x, ⟨a.dbs.length, Shr.of ⟨0, by omega, rfl, by omega, Abs.sub_refl _, fun i hi => absurd hi (by omega)⟩⟩, ?_⟩
    rintro m ys Hd ⟨y, hy, rfl, rfl, hsd, hrow⟩
    have hsd2 : Abs.sub H Hd := sub_trans hs1 hsd
    simp
    refine ⟨fun hlt2 => ?_, fun hge2 => ?_⟩
    · have hyl : y < a.dbs.length := by omega
      refine ⟨Hd, Abs.sub_refl _, ?_⟩
      refine dist_ld (hur.mono hsd) hok.1 ⟨by omega, hlt2⟩ ?_
      simp
      rw [i64_in (n := (y : Int) + 1) (by omega) (by omega)]
      have next : same2 a (x : Nat) (y : Nat) → ∃ n19, n19 < a.dbs.length - y ∧ Shr (InvAh H1 a x n19 [.int .i64 ((y : Int) + 1)]) Hd := fun hs => by
        refine ⟨a.dbs.length - (y + 1), by omega, Shr.of ⟨y + 1, by omega, by simp, rfl, hsd, fun j hj => ?_⟩⟩
        by_cases e : j = y
        · subst e; exact hs
        · exact hrow j (by omega)
      have bad : ¬ same2 a (x : Nat) (y : Nat) → Ret K (.bool false) Hd := fun hs => Ret.shr h (by rw [decide_eq_false fun hh : agreeR a => hs (hh.2 x hxl y hyl)]) hsd2
      refine ⟨fun hf => ?_, fun hf => next fun hh => absurd hh (by omega)⟩
      refine rdS_at g2 hsd2 (by omega) (by simpa using hxl) fun p1 r1 hp1 hr1 => ?_
      obtain ⟨v1, s1, rfl, _⟩ := id hr1
      have cv1 := rdS_cell hr1
      rw [hp1.ld]
      simp [cv1]
      refine rdS_at g2 hsd2 (by omega) (by simpa using hyl) fun p2 r2 hp2 hr2 => ?_
      obtain ⟨v2, s2, rfl, _⟩ := id hr2
      have cv2 := rdS_cell hr2
      rw [hp2.ld]
      simp [cv2]
      simp only [Int.toNat_natCast] at hr1 hr2
      have ok1 : dbOk a.dbs[x] := hok.2.2.2.2.2.2.1 x hxl
      have ok2 : dbOk a.dbs[y] := hok.2.2.2.2.2.2.1 y hyl
      refine C_s_DbSum ((dbT b).mono hr1 hsd2) ok1 ⟨Abs.sub_refl _, ?_⟩
      refine C_s_DbSum ((dbT b).mono hr2 hsd2) ok2 ⟨Abs.sub_refl _, ?_⟩
      have hsame : same2 a (x : Nat) (y : Nat) ↔ dbSum a.dbs[x] = dbSum a.dbs[y] ∧ a.dbs[x].length = a.dbs[y].length := by
        unfold same2
        rw [db_get hxl, db_get hyl]
        exact ⟨fun hh => hh hf, fun hh _ => hh⟩
      simp
      refine ⟨fun k => bad fun hh => k (hsame.1 hh).1, fun k => ?_⟩
      refine rdS_at g2 hsd2 (by omega) (by simpa using hxl) fun p3 r3 hp3 hr3 => hp3.fld fun q3 hq3 => ?_
      obtain ⟨v3, s3, rfl, _⟩ := id hr3
      simp only [Int.toNat_natCast] at hr3
      rw [hq3.ld]
      simp [rdS_cell hr3, rdS_len hr3]
      refine rdS_at g2 hsd2 (by omega) (by simpa using hyl) fun p4 r4 hp4 hr4 => hp4.fld fun q4 hq4 => ?_
      obtain ⟨v4, s4, rfl, _⟩ := id hr4
      simp only [Int.toNat_natCast] at hr4
      rw [hq4.ld]
      simp [rdS_cell hr4, rdS_len hr4]
      exact ⟨fun k2 => bad fun hh => k2 (by have := (hsame.1 hh).2; omega), fun k2 => next (hsame.2 ⟨k, by omega⟩)⟩
    · have : y = a.dbs.length := by omega
      subst this
      rw [i64_in (n := (x : Int) + 1) (by omega) (by omega)]
      refine ⟨a.dbs.length - (x + 1), by omega, Shr.of ⟨x + 1, by omega, by simp, rfl, hsd2, fun i hi j hj => ?_⟩⟩
      by_cases e : i = x
      · subst e; exact hrow j hj
      · exact hall i (by omega) j hj
  · have : x = a.dbs.length := by omega
    subst this
    exact Ret.shr h (by rw [decide_eq_true (show agreeR a from ⟨hok, hall⟩)]) hsc
def InvAi2 (H : Heap) (a : TNet) (m : Nat) (ys : List V) (Hc : Heap) : Prop :=
  ∃ x : Nat, x ≤ a.dbs.length ∧ ys = [.int .i64 (x : Nat)] ∧ m = a.dbs.length - x ∧ Abs.sub H Hc ∧ ∀ i, i < x → ∀ j, j < i → same2 a (i : Nat) (j : Nat)
def InvAj2 (H : Heap) (a : TNet) (x : Nat) (m : Nat) (ys : List V) (Hc : Heap) : Prop :=
  ∃ y : Nat, y ≤ x ∧ ys = [.int .i64 (y : Nat)] ∧ m = x - y ∧ Abs.sub H Hc ∧ ∀ j, j < y → same2 a (x : Nat) (j : Nat)
set_option maxHeartbeats 2000000 in
theorem C_i_Agree {b : Bool} {a : TNet} {vs : List V} {H : Heap} {K : V → Heap → Prop} (hv : (netT b).rd H a vs) (hl : bNet a)
    (h : K (.bool (decide (agreeR a))) H) : ACalls P n_i_Agree [.agg vs] H K := by
  have hv' := hv
  obtain ⟨e0, d0, w0, rfl, g1, g2, g3⟩ := hv
  have hc := net_cell g1 g2 g3
  apply W_i_Agree
  unfold F_i_Agree
  simp [hc]
  refine C_i_NetOk hv' hl ?_
  simp
  refine ⟨fun q => Ret.no h fun hh => q hh.1, fun hok => ?_⟩
  have hnl := hok.2.2.2.1
  have hn6 := hok.2.1
  refine C_i_Graph_all (c := false) g1.1 hok.1 fun u H1 hu => ?_
  have hs1 := hu.sub
  simp [rdS_len g2]
  refine ⟨InvAi2 H1 a, ⟨a.dbs.length, Shr.of ⟨0, by omega, rfl, by omega, Abs.sub_refl _, fun i hi => absurd hi (by omega)⟩⟩, ?_⟩
  rintro m ys Hc ⟨x, hx, rfl, rfl, hsc, hall⟩
  simp
  refine ⟨fun hlt => ?_, fun hge => ?_⟩
  · have hxl : x < a.dbs.length := by omega
    refine ⟨InvAj2 H1 a x, ⟨x, Shr.of ⟨0, by omega, rfl, by omega, hsc, fun i hi => absurd hi (by omega)⟩⟩, ?_⟩
    rintro m ys Hd ⟨y, hy, rfl, rfl, hsd, hrow⟩
    have hsd2 : Abs.sub H Hd := sub_trans hs1 hsd
    simp
    refine ⟨fun hlt2 => ?_, fun hge2 => ?_⟩
    · have hyl : y < a.dbs.length := by omega
      refine ⟨Hd, Abs.sub_refl _, ?_⟩
      have hdl : (dists a.up.n a.up.es a.up.n.toNat).length = a.up.n.toNat := by simp [dists]
      refine rdS_at hu.rd hsd (by omega) (by rw [hdl]; omega) fun p row hp hrw => ?_
      have hdx : (dists a.up.n a.up.es a.up.n.toNat)[(x : Int).toNat]'(by rw [hdl]; omega) = dist a.up.n a.up.es (x : Nat) := by simp [dists]
      rw [hdx] at hrw
      obtain ⟨u2, rws2, rfl, _⟩ := id hrw
      have hrw2 := flat_rd.1 hrw
      rw [hp.ld]
      simp [hrw2.1.cell]
      refine dist_ld (hrw2.1.mono hsd) hok.1 ⟨by omega, by omega⟩ ?_
      simp
      rw [i64_in (n := (y : Int) + 1) (by omega) (by omega)]
      have next : same2 a (x : Nat) (y : Nat) → ∃ n19, n19 < x - y ∧ Shr (InvAj2 H1 a x n19 [.int .i64 ((y : Int) + 1)]) Hd := fun hs => by
        refine ⟨x - (y + 1), by omega, Shr.of ⟨y + 1, by omega, by simp, rfl, hsd, fun j hj => ?_⟩⟩
        by_cases e : j = y
        · subst e; exact hs
        · exact hrow j (by omega)
      have bad : ¬ same2 a (x : Nat) (y : Nat) → Ret K (.bool false) Hd := fun hs => Ret.shr h (by rw [decide_eq_false fun hh : agreeR a => hs (hh.2 x hxl y hyl)]) hsd2
      refine ⟨fun hf => ?_, fun hf => next fun hh => absurd hh (by omega)⟩
      refine rdS_at g2 hsd2 (by omega) (by simpa using hxl) fun p1 r1 hp1 hr1 => ?_
      obtain ⟨v1, s1, rfl, _⟩ := id hr1
      have cv1 := rdS_cell hr1
      rw [hp1.ld]
      simp [cv1]
      refine rdS_at g2 hsd2 (by omega) (by simpa using hyl) fun p2 r2 hp2 hr2 => ?_
      obtain ⟨v2, s2, rfl, _⟩ := id hr2
      have cv2 := rdS_cell hr2
      rw [hp2.ld]
      simp [cv2]
      simp only [Int.toNat_natCast] at hr1 hr2
      have ok1 : dbOk a.dbs[x] := hok.2.2.2.2.2.2.1 x hxl
      have ok2 : dbOk a.dbs[y] := hok.2.2.2.2.2.2.1 y hyl
      refine C_i_Db_sum ((dbT b).mono hr1 hsd2) ok1 ⟨Abs.sub_refl _, ?_⟩
      refine C_i_Db_sum ((dbT b).mono hr2 hsd2) ok2 ⟨Abs.sub_refl _, ?_⟩
      have hsame : same2 a (x : Nat) (y : Nat) ↔ dbSum a.dbs[x] = dbSum a.dbs[y] ∧ a.dbs[x].length = a.dbs[y].length := by
        unfold same2
        rw [db_get hxl, db_get hyl]
        exact ⟨fun hh => hh hf, fun hh _ => hh⟩
      simp
      refine ⟨fun k => bad fun hh => k (hsame.1 hh).1, fun k => ?_⟩
      refine rdS_at g2 hsd2 (by omega) (by simpa using hxl) fun p3 r3 hp3 hr3 => hp3.fld fun q3 hq3 => ?_
      obtain ⟨v3, s3, rfl, _⟩ := id hr3
      simp only [Int.toNat_natCast] at hr3
      rw [hq3.ld]
      simp [rdS_cell hr3, rdS_len hr3]
      refine rdS_at g2 hsd2 (by omega) (by simpa using hyl) fun p4 r4 hp4 hr4 => hp4.fld fun q4 hq4 => ?_
      obtain ⟨v4, s4, rfl, _⟩ := id hr4
      simp only [Int.toNat_natCast] at hr4
      rw [hq4.ld]
      simp [rdS_cell hr4, rdS_len hr4]
      exact ⟨fun k2 => bad fun hh => k2 (by have := (hsame.1 hh).2; omega), fun k2 => next (hsame.2 ⟨k, by omega⟩)⟩
    · have : y = x := by omega
      subst this
      rw [i64_in (n := (y : Int) + 1) (by omega) (by omega)]
      refine ⟨a.dbs.length - (y + 1), by omega, Shr.of ⟨y + 1, by omega, by simp, rfl, hsd, fun i hi j hj => ?_⟩⟩
      by_cases e : i = y
      · subst e; exact hrow j hj
      · exact hall i (by omega) j hj
  · have : x = a.dbs.length := by omega
    subst this
    exact Ret.shr h (by rw [decide_eq_true ((agree_half hok).2 hall)]) (sub_trans hs1 hsc)
end Go.Proofs.YtohicpepcjgnaaaGreat
