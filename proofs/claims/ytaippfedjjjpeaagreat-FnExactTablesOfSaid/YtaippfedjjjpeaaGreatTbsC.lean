/-
Contract: the tables of a net's nodes.
-/
import Derived.Test.YtaippfedjjjpeaaGreatTblK
import Derived.Test.YtaippfedjjjpeaaGreatNetK
import Derived.Test.YtaippfedjjjpeaaGreatNetF
set_option linter.all false
namespace Go.Proofs.YtaippfedjjjpeaaGreat
open Go Go.Abs Go.Proofs

def tsR (ds : List (List TLsa)) (i : Nat) : List (List TRoute) := (List.range i).map fun x => (pfxR (ds.getD x []) (x : Nat)).1
def allOk (ds : List (List TLsa)) : Prop := ∀ x, x < ds.length → (pfxR (ds.getD x []) (x : Nat)).2 = true
instance (ds : List (List TLsa)) : Decidable (allOk ds) := by unfold allOk; infer_instance
def tablesR (a : TNet) : List (List TRoute) × Bool := if netOk a ∧ allOk a.dbs then (tsR a.dbs a.dbs.length, true) else ([], false)
theorem tsR_succ (ds : List (List TLsa)) (i : Nat) : tsR ds (i + 1) = tsR ds i ++ [(pfxR (ds.getD i []) (i : Nat)).1] := by
  unfold tsR
  rw [List.range_succ, List.map_append]
  rfl
theorem tsR_len (ds : List (List TLsa)) (i : Nat) : (tsR ds i).length = i := by simp [tsR]
theorem tables_no {a : TNet} (h : ¬ (netOk a ∧ allOk a.dbs)) : tablesR a = ([], false) := by unfold tablesR; rw [if_neg h]
theorem tables_yes {a : TNet} (h : netOk a ∧ allOk a.dbs) : tablesR a = (tsR a.dbs a.dbs.length, true) := by unfold tablesR; rw [if_pos h]
theorem tablesR_sz {a : TNet} : bTableS (tablesR a).1 := by
  by_cases h : netOk a ∧ allOk a.dbs
  · rw [tables_yes h]
    refine ⟨?_, fun t ht => ?_⟩
    · have := h.1.2.1
      have := h.1.2.2.2.1
      rw [tsR_len]
      omega
    · unfold tsR at ht
      obtain ⟨x, _, rfl⟩ := List.mem_map.1 ht
      exact pfxR_sz
  · rw [tables_no h]
    exact ⟨by simp, fun t ht => by simp at ht⟩
theorem net_db {a : TNet} (hb : bNet a) {i : Nat} (hi : i < a.dbs.length) : bDb a.dbs[i] := by
  have := le_sumF (f := szd) hi
  have e : szd a.dbs[i] = a.dbs[i].length + sumF szl a.dbs[i] := rfl
  unfold bNet szn at hb
  unfold bDb
  omega

def InvTs1 (H : Heap) (ds : List (List TLsa)) (m : Nat) (ys : List V) (Hc : Heap) : Prop :=
  ∃ (i : Nat) (u : V), i ≤ ds.length ∧ ys = [u, .int .i64 (i : Nat)] ∧ m = ds.length - i ∧ Dp (tablesT false) H (tsR ds i) [u] Hc ∧ ∀ x, x < i → (pfxR (ds.getD x []) (x : Nat)).2 = true
def InvTs2 (H : Heap) (b : V) (ds : List (List TLsa)) (m : Nat) (ys : List V) (Hc : Heap) : Prop :=
  ∃ (i : Nat) (u : V), i ≤ ds.length ∧ ys = [b, u, .int .i64 (i : Nat)] ∧ m = ds.length - i ∧ Dp (tablesT false) H (tsR ds i) [u] Hc ∧ ∀ x, x < i → (pfxR (ds.getD x []) (x : Nat)).2 = true
set_option maxHeartbeats 1000000 in
theorem C_i_TablesOf {a : TNet} {vs : List V} {H : Heap} {K : V → Heap → Prop} (hv : (netT false).rd H a vs) (hb : bNet a)
    (h : ∀ u H', Dp (tablesT false) H (tablesR a).1 [u] H' → K (.tup [u, .bool (tablesR a).2]) H') : ACalls P n_i_TablesOf [.agg vs] H K := by
  have hv' := hv
  obtain ⟨e, d, w, rfl, g1, g2, g3⟩ := hv
  have hc := net_cell g1 g2 g3
  have ln := rdS_len g2
  refine acalls_shr ?_
  apply W_i_TablesOf
  unfold F_i_TablesOf
  simp [hc]
  refine C_i_NetOk hv' hb ?_
  simp
  have out : ¬ (netOk a ∧ allOk a.dbs) → ∀ {Hx : Heap}, Abs.sub H Hx → Ret (fun v H' => ∃ H'', Abs.sub H'' H' ∧ K v H'') (.tup [.nils, .bool false]) Hx := fun q {Hx} hs => by
    rw [tables_no q] at h
    exact Ret.of ⟨H, hs, h .nils H dpS_nil⟩
  refine ⟨fun hno => out (fun q => hno q.1) (Abs.sub_refl _), fun hok => ?_⟩
  have hn6 := hok.2.1
  have hnl := hok.2.2.2.1
  simp [bsl_nil, ln]
  intro o ho
  refine ⟨InvTs1 H a.dbs, ⟨a.dbs.length, Shr.of ⟨0, .slice o 0 0 (some 0), by omega, rfl, by omega, dpS_new ho, by omega⟩⟩, ?_⟩
  rintro m ys Hc ⟨i, u, hi, rfl, rfl, hu, hall⟩
  simp
  refine ⟨fun hlt => ?_, fun hge => ?_⟩
  · refine rdS_at g2 hu.sub (by omega) (by simpa using hlt) fun p row hp hr => ?_
    simp only [Int.toNat_natCast] at hr
    have hr' := hr
    obtain ⟨x, rows, rfl, _, _⟩ := hr
    have cx := rdS_cell hr'
    rw [hp.ld]
    simp [stz_eq, putCells, cx]
    refine C_i_TableFor ((dbT false).mono hr' hu.sub) (net_db hb hlt) fun t H1 h1 => ?_
    have ct := dpS_cell h1
    simp [stz_eq, putCells, ct]
    have ge : a.dbs.getD i [] = a.dbs[i] := by simp [hlt]
    refine ⟨fun hno => out (fun q => by have := q.2 i hlt; rw [ge, hno] at this; simp at this) (sub_trans hu.sub h1.sub), fun hyes => ?_⟩
    simp [bsl_one, ct]
    intro o2 ho2
    refine dpS_app hu h1 (sub_fresh ho2) (by rw [tsR_len]; omega) fun v' H' H'' q1 q2 => ?_
    rw [i64_in (n := (i : Int) + 1) (by omega) (by omega)]
    refine ⟨a.dbs.length - (i + 1), by omega, H'', q2, i + 1, v', by omega, by simp, rfl, ?_, fun x hx => ?_⟩
    · rw [tsR_succ, ge]; exact q1
    · by_cases e : x = i
      · subst e; rw [ge]; exact hyes
      · exact hall x (by omega)
  · have : i = a.dbs.length := by omega
    subst this
    rw [tables_yes ⟨hok, hall⟩] at h
    exact Ret.of ⟨Hc, Abs.sub_refl _, h u Hc hu⟩
set_option maxHeartbeats 1000000 in
theorem C_s_TablesOf {a : TNet} {vs : List V} {H : Heap} {K : V → Heap → Prop} (hv : (netT false).rd H a vs) (hb : bNet a)
    (h : ∀ u H', Dp (tablesT false) H (tablesR a).1 [u] H' → K (.tup [u, .bool (tablesR a).2]) H') : ACalls P n_s_TablesOf [.agg vs] H K := by
  have hv' := hv
  obtain ⟨e, d, w, rfl, g1, g2, g3⟩ := hv
  have hc := net_cell g1 g2 g3
  refine acalls_shr ?_
  apply W_s_TablesOf
  unfold F_s_TablesOf
  simp [hc, bsl_nil]
  intro o ho
  have hso : Abs.sub H (upd H o ⟨1, []⟩) := sub_fresh ho
  refine C_s_NetOk ((netT false).mono hv' hso) hb ?_
  simp
  have out : ¬ (netOk a ∧ allOk a.dbs) → ∀ {Hx : Heap}, Abs.sub H Hx → Ret (fun v H' => ∃ H'', Abs.sub H'' H' ∧ K v H'') (.tup [.nils, .bool false]) Hx := fun q {Hx} hs => by
    rw [tables_no q] at h
    exact Ret.of ⟨H, hs, h .nils H dpS_nil⟩
  refine ⟨fun hno => out (fun q => hno q.1) hso, fun hok => ?_⟩
  have hn6 := hok.2.1
  have hnl := hok.2.2.2.1
  refine ⟨InvTs2 H (.box (netRow a e d w)) a.dbs, ⟨a.dbs.length, Shr.of ⟨0, .slice o 0 0 (some 0), by omega, rfl, by omega, dpS_new ho, by omega⟩⟩, ?_⟩
  rintro m ys Hc ⟨i, u, hi, rfl, rfl, hu, hall⟩
  simp
  refine ⟨fun hlt => ?_, fun hge => ?_⟩
  · have hlt : i < a.dbs.length := by omega
    refine rdS_at g2 hu.sub (by omega) (by simpa using hlt) fun p row hp hr => ?_
    simp only [Int.toNat_natCast] at hr
    have hr' := hr
    obtain ⟨x, rows, rfl, _, _⟩ := hr
    have cx := rdS_cell hr'
    rw [hp.ld]
    simp [stz_eq, putCells, cx]
    refine C_s_TableFor ((dbT false).mono hr' hu.sub) (net_db hb hlt) fun t H1 h1 => ?_
    have ct := dpS_cell h1
    simp [stz_eq, putCells, ct]
    have ge : a.dbs.getD i [] = a.dbs[i] := by simp [hlt]
    refine ⟨fun hno => out (fun q => by have := q.2 i hlt; rw [ge, hno] at this; simp at this) (sub_trans hu.sub h1.sub), fun hyes => ?_⟩
    simp [bsl_one, ct]
    intro o2 ho2
    refine dpS_app hu h1 (sub_fresh ho2) (by rw [tsR_len]; omega) fun v' H' H'' q1 q2 => ?_
    rw [i64_in (n := (i : Int) + 1) (by omega) (by omega)]
    refine ⟨a.dbs.length - (i + 1), by omega, H'', q2, i + 1, v', by omega, by simp, rfl, ?_, fun x hx => ?_⟩
    · rw [tsR_succ, ge]; exact q1
    · by_cases e : x = i
      · subst e; rw [ge]; exact hyes
      · exact hall x (by omega)
  · have : i = a.dbs.length := by omega
    subst this
    rw [tables_yes ⟨hok, hall⟩] at h
    exact Ret.of ⟨Hc, Abs.sub_refl _, h u Hc hu⟩

end Go.Proofs.YtaippfedjjjpeaaGreat
