/-
Contracts: valid nets.
-/
import Derived.Test.YtaippfedjjjpeaaGreatNets
import Derived.Test.YtaippfedjjjpeaaGreatLsaM
set_option linter.all false
namespace Go.Proofs.YtaippfedjjjpeaaGreat
open Go Go.Abs Go.Proofs

def edgeT (_ : Bool) : Ty TEdge := flatT 3 enEdge (fun _ => rfl)
def nodesIn (n : Int) (x : Int) : Prop := 0 ≤ x ∧ x < n
instance (n x : Int) : Decidable (nodesIn n x) := by unfold nodesIn; infer_instance
def pairOk (n : Int) (es : List TEdge) (i : Nat) : Prop := cost n es (ed es i).2.1 (ed es i).1 = (ed es i).2.2
instance (n : Int) (es : List TEdge) (i : Nat) : Decidable (pairOk n es i) := by unfold pairOk; infer_instance
def pairsOk (n : Int) (es : List TEdge) : Prop := ∀ i, i < es.length → pairOk n es i
instance (n : Int) (es : List TEdge) : Decidable (pairsOk n es) := by unfold pairsOk; infer_instance
def msgOk (n : Int) (m : TMsg) : Prop := nodesIn n m.1 ∧ nodesIn n m.2.1 ∧ m.1 ≠ m.2.1 ∧ lsaOk m.2.2
instance (n : Int) (m : TMsg) : Decidable (msgOk n m) := by unfold msgOk; infer_instance
def dbsOk (xs : List (List TLsa)) : Prop := ∀ i, (h : i < xs.length) → dbOk xs[i]
instance (xs : List (List TLsa)) : Decidable (dbsOk xs) := by unfold dbsOk; infer_instance
def wiresOk (n : Int) (xs : List TMsg) : Prop := ∀ i, (h : i < xs.length) → msgOk n xs[i]
instance (n : Int) (xs : List TMsg) : Decidable (wiresOk n xs) := by unfold wiresOk; infer_instance
def netOk (a : TNet) : Prop := graphOk a.up.n a.up.es ∧ a.up.n ≤ 6 ∧ pairsOk a.up.n a.up.es ∧ (a.dbs.length : Int) = a.up.n ∧ a.wires.length ≤ 400 ∧ (0 ≤ a.lost ∧ a.lost ≤ 1000000) ∧ dbsOk a.dbs ∧ wiresOk a.up.n a.wires
instance (a : TNet) : Decidable (netOk a) := by unfold netOk; infer_instance

theorem C_s_l08Pairs {n : Int} {v : V} {es : List TEdge} {H : Heap} {K : V → Heap → Prop} (hv : Rd H 3 v (es.map enEdge)) (hg : graphOk n es) (h : K (.bool (decide (pairsOk n es))) H) : ACalls P n_s_l08Pairs [vG n v] H K := by
  have hc := hv.cell
  have hl := hg.2.1
  apply W_s_l08Pairs
  unfold F_s_l08Pairs
  simp [hc]
  refine ⟨fun m ys Hc => ∃ i, i ≤ es.length ∧ ys = [.int .i64 (i : Nat)] ∧ m = es.length - i ∧ Hc = H ∧ ∀ j, j < i → pairOk n es j, ⟨es.length, Shr.of ⟨0, by omega, rfl, by omega, rfl, fun j hj => absurd hj (by omega)⟩⟩, ?_⟩
  rintro m ys Hc ⟨i, hi, rfl, rfl, rfl, hok⟩
  simp [hv.len]
  refine ⟨fun hlt => ⟨_, Abs.sub_refl _, ?_⟩, fun hge => ?_⟩
  · have hrow : (es.map enEdge).getD i [] = enEdge es[i] := by simp [hlt]
    have at_ : ∀ {K : V → Prop}, (∀ p, Pt Hc p (enEdge es[i]) 0 → K p) → bnd (aIndex Hc 3 v (.int .i64 (i : Nat))) K := fun {K} hK => by
      refine hv.idx (by omega) (by simpa using hlt) fun p hp => ?_
      simp only [Int.toNat_natCast, hrow] at hp
      exact hK p hp
    refine at_ fun p hp => hp.fld fun q hq => ?_
    rw [hq.ld]
    simp
    refine at_ fun p hp => hp.fld fun q hq => ?_
    rw [hq.ld]
    simp
    refine at_ fun p hp => hp.fld fun q hq => ?_
    rw [hq.ld]
    simp
    refine C_s_l03Cost hv hg ⟨Abs.sub_refl _, ?_⟩
    have he := ed_get hlt
    simp
    refine ⟨fun q => Ret.no h fun hh => q (by have := hh i hlt; unfold pairOk at this; rw [he] at this; exact this), fun q => ?_⟩
    rw [i64_in (by omega) (by omega)]
    exact ⟨es.length - (i + 1), by omega, Shr.of ⟨i + 1, by omega, by simp, rfl, rfl, fun j hj => by
      by_cases e : j = i
      · subst e; unfold pairOk; rw [he]; exact q
      · exact hok j (by omega)⟩⟩
  · have : i = es.length := by omega
    subst this
    exact Ret.yes h hok

def InvN1 (xs : List (List TLsa)) (H : Heap) (m : Nat) (ys : List V) (Hc : Heap) : Prop :=
  ∃ i, i ≤ xs.length ∧ ys = [.int .i64 (i : Nat)] ∧ m = xs.length - i ∧ Hc = H ∧ ∀ j, (h : j < xs.length) → j < i → dbOk xs[j]
def InvN2 (n : Int) (xs : List TMsg) (cells : List V) (H : Heap) (m : Nat) (ys : List V) (Hc : Heap) : Prop :=
  ∃ i, i ≤ xs.length ∧ ys = [.box cells, .int .i64 (i : Nat)] ∧ m = xs.length - i ∧ Hc = H ∧ ∀ j, (h : j < xs.length) → j < i → msgOk n xs[j]
set_option maxHeartbeats 1000000 in
theorem C_s_NetOk {b : Bool} {a : TNet} {vs : List V} {H : Heap} {K : V → Heap → Prop} (hv : (netT b).rd H a vs) (_ : bNet a) (h : K (.bool (decide (netOk a))) H) : ACalls P n_s_NetOk [.agg vs] H K := by
  obtain ⟨e, d, w, rfl, g1, g2, g3⟩ := hv
  have hc := net_cell g1 g2 g3
  apply W_s_NetOk
  unfold F_s_NetOk
  simp [hc]
  refine C_s_GraphOk g1.1 ?_
  simp
  refine ⟨fun q => Ret.no h fun hh => q hh.1, fun q1 => ?_⟩
  refine ⟨fun q => Ret.no h fun hh => by have := hh.2.1; omega, fun q2 => ?_⟩
  refine C_s_l08Pairs g1.1 q1 ?_
  simp [rdS_len g2, rdS_len g3]
  refine ⟨fun q => Ret.no h fun hh => q hh.2.2.1, fun q3 => ?_⟩
  refine ⟨fun q => Ret.no h fun hh => by have := hh.2.2.2.1; omega, fun q4 => ?_⟩
  refine ⟨fun q => Ret.no h fun hh => by have := hh.2.2.2.2.1; omega, fun q5 => ?_⟩
  apply C_s_l01In
  simp
  refine ⟨fun q => Ret.no h fun hh => by have := hh.2.2.2.2.2.1; omega, fun q6 q6' => ?_⟩
  have hn := q1.1
  refine ⟨InvN1 a.dbs H, ⟨a.dbs.length, Shr.of ⟨0, by omega, by simp, by omega, rfl, fun j _ hj => absurd hj (by omega)⟩⟩, ?_⟩
  rintro m ys Hc ⟨i, hi, rfl, rfl, rfl, hok⟩
  simp [rdS_len g2]
  refine ⟨fun hlt => ?_, fun hge => ?_⟩
  · refine rdS_idx g2 (by omega) (by simpa using hlt) fun p row hp hr => ?_
    simp only [Int.toNat_natCast] at hr
    have hr' := hr
    obtain ⟨u, rows, rfl, _, _⟩ := hr
    rw [hp.ld]
    simp
    refine C_s_DbOk hr' ?_
    simp
    refine ⟨fun q => Ret.no h fun hh => q (hh.2.2.2.2.2.2.1 i hlt), fun q => ?_⟩
    rw [i64_in (by omega) (by omega)]
    exact ⟨a.dbs.length - (i + 1), by omega, Shr.of ⟨i + 1, by omega, by simp, rfl, rfl, fun j hj hji => by
      by_cases e : j = i
      · subst e; exact q
      · exact hok j hj (by omega)⟩⟩
  · have : i = a.dbs.length := by omega
    subst this
    refine ⟨InvN2 a.up.n a.wires (netRow a e d w) Hc, ⟨a.wires.length, Shr.of ⟨0, by omega, by simp, by omega, rfl, fun j _ hj => absurd hj (by omega)⟩⟩, ?_⟩
    rintro m ys Hc ⟨i, hi, rfl, rfl, rfl, hok2⟩
    simp [hc, rdS_len g3]
    refine ⟨fun hlt => ?_, fun hge => ?_⟩
    · refine rdS_idx g3 (by omega) (by simpa using hlt) fun p row hp hr => ?_
      simp only [Int.toNat_natCast] at hr
      obtain ⟨r, rfl, hr⟩ := hr
      have hr' := hr
      obtain ⟨l, s, rfl, k1, k2⟩ := hr
      have hcc := lsa_cell k1 k2
      rw [hp.ld]
      simp [stz_eq, putCells, hcc]
      have no : ¬ msgOk a.up.n a.wires[i] → Ret K (.bool false) Hc := fun hn => Ret.no h fun hh => hn (hh.2.2.2.2.2.2.2 i hlt)
      refine C_s_l03Node g1.1 hn ?_
      simp
      refine ⟨fun q => no fun hh => by have := hh.1; unfold nodesIn at this; omega, fun r1 r1' => ?_⟩
      refine C_s_l03Node g1.1 hn ?_
      simp
      refine ⟨fun q => no fun hh => by have := hh.2.1; unfold nodesIn at this; omega, fun r2 r2' => ?_⟩
      refine ⟨fun q => no fun hh => hh.2.2.1 q, fun r3 => ?_⟩
      refine C_s_LsaOk hr' ?_
      simp
      refine ⟨fun q => no fun hh => q hh.2.2.2, fun r4 => ?_⟩
      rw [i64_in (by omega) (by omega)]
      exact ⟨a.wires.length - (i + 1), by omega, Shr.of ⟨i + 1, by omega, by simp, rfl, rfl, fun j hj hji => by
        by_cases e : j = i
        · subst e; exact ⟨⟨r1, r1'⟩, ⟨r2, r2'⟩, r3, r4⟩
        · exact hok2 j hj (by omega)⟩⟩
    · have : i = a.wires.length := by omega
      subst this
      exact Ret.yes h ⟨q1, by omega, q3, q4, by omega, by omega, fun j hj => hok j hj hj, fun j hj => hok2 j hj hj⟩

/-! #### the program's -/
theorem C_Contains_i_Edge {b : Bool} {v f : V} {xs : List (TEdge)} {q : Nat → Bool} {H : Heap} {K : V → Heap → Prop} (hv : (sliceT b (edgeT b)).rd H xs [v]) (hl : xs.length ≤ 2000000) (hf : ∀ i (hi : i < xs.length) row, (edgeT b).rd H xs[i] row → ∀ K', K' (.bool (q i)) H → callK P H f [.agg row] K')
    (h : K (.bool (decide (∃ i, i < xs.length ∧ q i = true))) H) : ACalls P n_slices_ContainsFunc_i_Edge_i_Edge [v, f] H K := by
  apply W_slices_ContainsFunc_i_Edge_i_Edge
  unfold F_slices_ContainsFunc_i_Edge_i_Edge
  apply W_slices_IndexFunc_i_Edge_i_Edge
  unfold F_slices_IndexFunc_i_Edge_i_Edge
  simp [rdS_len hv]
  refine ⟨InvIx xs.length q H, ⟨xs.length, Shr.of ⟨0, by omega, by simp, by omega, rfl, fun j hj => absurd hj (by omega)⟩⟩, ?_⟩
  rintro m ys Hc ⟨i, hi, rfl, rfl, rfl, hok⟩
  simp
  refine ⟨fun hlt => ?_, fun hge => ?_⟩
  · refine rdS_idx hv (by omega) (by simpa using hlt) fun p row hp hr => ?_
    simp only [Int.toNat_natCast] at hr
    have hw : row.length = 3 := (edgeT b).len hr
    rw [hp.ld]
    have e : partOf true 3 row 0 = some (.agg row) := by simp [hw]; exact List.take_of_length_le (by omega)
    rw [e]
    simp only [bnd_some]
    refine hf i hlt row hr _ ?_
    cases hq : q i
    · simp
      rw [i64_in (n := (i : Int) + 1) (by omega) (by omega)]
      exact ⟨xs.length - (i + 1), by omega, Shr.of ⟨i + 1, by omega, by simp, rfl, rfl, fun j hj => by
        by_cases e : j = i
        · subst e; exact hq
        · exact hok j (by omega)⟩⟩
    · simp
      refine Ret.of ?_
      simp
      exact Ret.eq h (by simp; exact ⟨i, hlt, hq⟩)
  · have : i = xs.length := by omega
    subst this
    refine Ret.of ?_
    simp
    exact Ret.eq h (by simp; exact fun j hj => by simp [hok j hj])


theorem C_Contains_i_Db {b : Bool} {v f : V} {xs : List (List TLsa)} {q : Nat → Bool} {H : Heap} {K : V → Heap → Prop} (hv : (sliceT b (dbT b)).rd H xs [v]) (hl : xs.length ≤ 2000000) (hf : ∀ i (hi : i < xs.length) row, (dbT b).rd H xs[i] row → ∀ K', K' (.bool (q i)) H → callK P H f [.agg row] K')
    (h : K (.bool (decide (∃ i, i < xs.length ∧ q i = true))) H) : ACalls P n_slices_ContainsFunc_i_Db_i_Db [v, f] H K := by
  apply W_slices_ContainsFunc_i_Db_i_Db
  unfold F_slices_ContainsFunc_i_Db_i_Db
  apply W_slices_IndexFunc_i_Db_i_Db
  unfold F_slices_IndexFunc_i_Db_i_Db
  simp [rdS_len hv]
  refine ⟨InvIx xs.length q H, ⟨xs.length, Shr.of ⟨0, by omega, by simp, by omega, rfl, fun j hj => absurd hj (by omega)⟩⟩, ?_⟩
  rintro m ys Hc ⟨i, hi, rfl, rfl, rfl, hok⟩
  simp
  refine ⟨fun hlt => ?_, fun hge => ?_⟩
  · refine rdS_idx hv (by omega) (by simpa using hlt) fun p row hp hr => ?_
    simp only [Int.toNat_natCast] at hr
    have hw : row.length = 1 := (dbT b).len hr
    rw [hp.ld]
    have e : partOf true 1 row 0 = some (.agg row) := by simp [hw]; exact List.take_of_length_le (by omega)
    rw [e]
    simp only [bnd_some]
    refine hf i hlt row hr _ ?_
    cases hq : q i
    · simp
      rw [i64_in (n := (i : Int) + 1) (by omega) (by omega)]
      exact ⟨xs.length - (i + 1), by omega, Shr.of ⟨i + 1, by omega, by simp, rfl, rfl, fun j hj => by
        by_cases e : j = i
        · subst e; exact hq
        · exact hok j (by omega)⟩⟩
    · simp
      refine Ret.of ?_
      simp
      exact Ret.eq h (by simp; exact ⟨i, hlt, hq⟩)
  · have : i = xs.length := by omega
    subst this
    refine Ret.of ?_
    simp
    exact Ret.eq h (by simp; exact fun j hj => by simp [hok j hj])


theorem C_Contains_i_Msg {b : Bool} {v f : V} {xs : List (TMsg)} {q : Nat → Bool} {H : Heap} {K : V → Heap → Prop} (hv : (sliceT b (msgT b)).rd H xs [v]) (hl : xs.length ≤ 2000000) (hf : ∀ i (hi : i < xs.length) row, (msgT b).rd H xs[i] row → ∀ K', K' (.bool (q i)) H → callK P H f [.agg row] K')
    (h : K (.bool (decide (∃ i, i < xs.length ∧ q i = true))) H) : ACalls P n_slices_ContainsFunc_i_Msg_i_Msg [v, f] H K := by
  apply W_slices_ContainsFunc_i_Msg_i_Msg
  unfold F_slices_ContainsFunc_i_Msg_i_Msg
  apply W_slices_IndexFunc_i_Msg_i_Msg
  unfold F_slices_IndexFunc_i_Msg_i_Msg
  simp [rdS_len hv]
  refine ⟨InvIx xs.length q H, ⟨xs.length, Shr.of ⟨0, by omega, by simp, by omega, rfl, fun j hj => absurd hj (by omega)⟩⟩, ?_⟩
  rintro m ys Hc ⟨i, hi, rfl, rfl, rfl, hok⟩
  simp
  refine ⟨fun hlt => ?_, fun hge => ?_⟩
  · refine rdS_idx hv (by omega) (by simpa using hlt) fun p row hp hr => ?_
    simp only [Int.toNat_natCast] at hr
    have hw : row.length = 7 := (msgT b).len hr
    rw [hp.ld]
    have e : partOf true 7 row 0 = some (.agg row) := by simp [hw]; exact List.take_of_length_le (by omega)
    rw [e]
    simp only [bnd_some]
    refine hf i hlt row hr _ ?_
    cases hq : q i
    · simp
      rw [i64_in (n := (i : Int) + 1) (by omega) (by omega)]
      exact ⟨xs.length - (i + 1), by omega, Shr.of ⟨i + 1, by omega, by simp, rfl, rfl, fun j hj => by
        by_cases e : j = i
        · subst e; exact hq
        · exact hok j (by omega)⟩⟩
    · simp
      refine Ret.of ?_
      simp
      exact Ret.eq h (by simp; exact ⟨i, hlt, hq⟩)
  · have : i = xs.length := by omega
    subst this
    refine Ret.of ?_
    simp
    exact Ret.eq h (by simp; exact fun j hj => by simp [hok j hj])

theorem no_all {n : Nat} {q : Nat → Prop} [∀ i, Decidable (q i)] : (!decide (∃ i, i < n ∧ (!decide (q i)) = true)) = decide (∀ i, i < n → q i) := by
  by_cases h : ∀ i, i < n → q i
  · have : ¬ ∃ i, i < n ∧ (!decide (q i)) = true := fun ⟨i, h1, h2⟩ => by simp [h i h1] at h2
    rw [decide_eq_true h, decide_eq_false this]; rfl
  · have : ∃ i, i < n ∧ (!decide (q i)) = true := by
      apply Classical.byContradiction
      intro hh
      refine h fun i hi => ?_
      apply Classical.byContradiction
      intro hq
      exact hh ⟨i, hi, by simp [hq]⟩
    rw [decide_eq_false h, decide_eq_true this]; rfl
def chk {α : Type} (p : α → Bool) (xs : List α) (i : Nat) : Bool := match xs[i]? with | some a => p a | none => false
theorem chk_at {α : Type} {p : α → Bool} {xs : List α} {i : Nat} (h : i < xs.length) : chk p xs i = p xs[i] := by unfold chk; simp [h]
theorem chk_any {α : Type} {p : α → Bool} {xs : List α} : decide (∃ i, i < xs.length ∧ chk p xs i = true) = xs.any p := by
  by_cases h : xs.any p = true
  · rw [h]
    obtain ⟨a, ha, hp⟩ := List.any_eq_true.1 h
    obtain ⟨i, hi, rfl⟩ := List.mem_iff_getElem.1 ha
    exact decide_eq_true ⟨i, hi, by rw [chk_at hi]; exact hp⟩
  · rw [Bool.eq_false_iff.2 h]
    refine decide_eq_false fun ⟨i, hi, hp⟩ => h (List.any_eq_true.2 ⟨xs[i], List.getElem_mem hi, by rw [← chk_at (p := p) hi]; exact hp⟩)
theorem dbs_any {xs : List (List TLsa)} : xs.any (fun d => !decide (dbOk d)) = !decide (dbsOk xs) := by
  by_cases h : dbsOk xs
  · rw [decide_eq_true h]
    refine Bool.eq_false_iff.2 fun hh => ?_
    obtain ⟨a, ha, hp⟩ := List.any_eq_true.1 hh
    obtain ⟨i, hi, rfl⟩ := List.mem_iff_getElem.1 ha
    simp [h i hi] at hp
  · rw [decide_eq_false h]
    apply Classical.byContradiction
    intro hh
    refine h fun i hi => ?_
    apply Classical.byContradiction
    intro hq
    exact hh (List.any_eq_true.2 ⟨xs[i], List.getElem_mem hi, by simp [hq]⟩)
theorem wires_any {n : Int} {xs : List TMsg} : xs.any (fun d => !decide (msgOk n d)) = !decide (wiresOk n xs) := by
  by_cases h : wiresOk n xs
  · rw [decide_eq_true h]
    refine Bool.eq_false_iff.2 fun hh => ?_
    obtain ⟨a, ha, hp⟩ := List.any_eq_true.1 hh
    obtain ⟨i, hi, rfl⟩ := List.mem_iff_getElem.1 ha
    simp [h i hi] at hp
  · rw [decide_eq_false h]
    apply Classical.byContradiction
    intro hh
    refine h fun i hi => ?_
    apply Classical.byContradiction
    intro hq
    exact hh (List.any_eq_true.2 ⟨xs[i], List.getElem_mem hi, by simp [hq]⟩)
theorem C_i_isNetwork {n : Int} {v : V} {es : List TEdge} {H : Heap} {K : V → Heap → Prop} (hv : Rd H 3 v (es.map enEdge)) (h : K (.bool (decide (graphOk n es ∧ n ≤ 6 ∧ pairsOk n es))) H) : ACalls P n_i_isNetwork [vG n v] H K := by
  have hc := hv.cell
  apply W_i_isNetwork
  unfold F_i_isNetwork
  simp [hc]
  intro o ho
  have hs := sub_fresh (x := ⟨2, [[.int .i64 n, v]]⟩) ho
  have hv' := hv.mono hs
  simp [aLd_at (upd_eq H o _), hc]
  refine C_i_GraphOk hv' ?_
  simp [aField, aLd_at (upd_eq H o _), hc]
  refine ⟨fun q1 => ?_, fun q => Ret.shr h (by simp; intro hh; exact absurd hh q) hs⟩
  refine ⟨fun q2 => ?_, fun q => Ret.shr h (by simp; intro _ hh; omega) hs⟩
  have hl := q1.2.1
  refine C_Contains_i_Edge (b := true) (q := fun i => !decide (pairOk n es i)) (flat_rd.2 ⟨hv', by simp⟩) (by omega) (fun i hi row hr K' hk => ?_) ?_
  · cases hr
    simp only [callK]
    rw [E_i_isNetwork_1]
    show ACalls P n_i_isNetwork_1 [.agg (enEdge es[i]), .ptr o 0 0] _ K'
    apply W_i_isNetwork_1
    unfold F_i_isNetwork_1
    simp
    refine ⟨_, Abs.sub_refl _, ?_⟩
    simp [aLd_at (upd_eq H o _)]
    refine C_i_Graph_cost hv' q1 ⟨Abs.sub_refl _, ?_⟩
    simp only [aBinN_neq, bnd_some]
    refine Ret.eq hk ?_
    have hp : pairOk n es i ↔ cost n es es[i].2.1 es[i].1 = es[i].2.2 := by unfold pairOk; rw [ed_get hi]
    by_cases hh : cost n es es[i].2.1 es[i].1 = es[i].2.2
    · simp [hp.2 hh, hh]
    · have hnp : ¬ pairOk n es i := fun q => hh (hp.1 q)
      simp [hnp, hh]
  · simp only [aNot, bnd_some]
    refine Ret.shr h ?_ hs
    rw [no_all]
    simp [q1, q2, pairsOk]
set_option maxHeartbeats 1000000 in
theorem C_i_NetOk {b : Bool} {a : TNet} {vs : List V} {H : Heap} {K : V → Heap → Prop} (hv : (netT b).rd H a vs) (hb : bNet a) (h : K (.bool (decide (netOk a))) H) : ACalls P n_i_NetOk [.agg vs] H K := by
  obtain ⟨e, d, w, rfl, g1, g2, g3⟩ := hv
  have hc := net_cell g1 g2 g3
  unfold bNet szn at hb
  apply W_i_NetOk
  unfold F_i_NetOk
  simp [hc]
  intro o ho
  have hs := sub_fresh (x := ⟨5, [netRow a e d w]⟩) ho
  replace g1 := g1.mono hs
  replace g2 := (dbsT b).mono g2 hs
  replace g3 := (wiresT b).mono g3 hs
  have h' : ∀ c : Bool, c = decide (netOk a) → Ret K (.bool c) (upd H o ⟨5, [netRow a e d w]⟩) := fun c e => Ret.shr h (by rw [e]) hs
  simp [aField, aLd_at (upd_eq H o _), hc]
  refine C_i_isNetwork g1.1 ?_
  simp [rdS_len g2, rdS_len g3]
  have hd : ∀ x : Prop, [Decidable x] → (decide x = true ↔ x) := fun x => by simp
  by_cases q1 : graphOk a.up.n a.up.es ∧ a.up.n ≤ 6 ∧ pairsOk a.up.n a.up.es
  case neg =>
    refine ⟨fun _ => h' _ (by simp; exact fun hh => q1 ⟨hh.1, hh.2.1, hh.2.2.1⟩), fun a b c => absurd ⟨a, b, c⟩ q1⟩
  obtain ⟨q1, q2, q3⟩ := q1
  have hn := q1.1
  refine ⟨fun q => absurd q (by simp [q1, q3]; omega), fun _ _ _ => ?_⟩
  simp [aLd_at (upd_eq H o _), hc, rdS_len g2, rdS_len g3]
  refine ⟨fun q => h' _ (by simp; exact fun hh => by have := hh.2.2.2.1; omega), fun q4 => ?_⟩
  refine ⟨fun q => h' _ (by simp; exact fun hh => by have := hh.2.2.2.2.1; omega), fun q5 => ?_⟩
  apply C_i_within
  simp
  refine ⟨fun q => h' _ (by simp; exact fun hh => by have := hh.2.2.2.2.2.1; omega), fun q6 q6' => ?_⟩
  simp [aLd_at (upd_eq H o _), hc]
  refine C_Contains_i_Db (q := chk (fun d => !decide (dbOk d)) a.dbs) g2 (by omega) (fun i hi row hr K' hk => ?_) ?_
  · simp only [callK]
    rw [E_i_NetOk_1]
    show ACalls P n_i_NetOk_1 [.agg row] _ K'
    have hr' := hr
    obtain ⟨u, rows, rfl, _, _⟩ := hr
    have cu := rdS_cell hr'
    apply W_i_NetOk_1
    unfold F_i_NetOk_1
    have hz := le_sumF (f := szd) hi
    have hz' : szd a.dbs[i] = a.dbs[i].length + sumF szl a.dbs[i] := rfl
    simp [cu]
    refine C_i_DbOk hr' (by omega) ?_
    rw [chk_at hi] at hk
    simp
    exact Ret.eq hk (by simp)
  rw [chk_any, dbs_any]
  simp
  refine ⟨fun q => h' _ (by simp; exact fun hh => q hh.2.2.2.2.2.2.1), fun q7 => ?_⟩
  simp [aLd_at (upd_eq H o _), hc]
  refine C_Contains_i_Msg (q := chk (fun m => !decide (msgOk a.up.n m)) a.wires) g3 (by omega) (fun i hi row hr K' hk => ?_) ?_
  · simp only [callK]
    rw [E_i_NetOk_2]
    show ACalls P n_i_NetOk_2 [.agg row, .ptr o 0 0] _ K'
    obtain ⟨r, rfl, hr⟩ := hr
    have hr' := hr
    obtain ⟨l, s, rfl, k1, k2⟩ := hr
    have hcc := lsa_cell k1 k2
    apply W_i_NetOk_2
    unfold F_i_NetOk_2
    have hz := le_sumF (f := szw) hi
    have hz' : szw a.wires[i] = a.wires[i].2.2.links.length + a.wires[i].2.2.stubs.length := rfl
    rw [chk_at hi] at hk
    generalize a.wires[i] = m at *
    have no : ¬ msgOk a.up.n m → Ret K' (.bool true) (upd H o ⟨5, [netRow a e d w]⟩) := fun hn => Ret.eq hk (by simp [hn])
    simp [aField, aLd_at (upd_eq H o _), hc, hcc]
    refine C_i_Graph_isNode g1.1 hn ?_
    simp
    refine ⟨fun q => no fun hh => by have := hh.1; unfold nodesIn at this; omega, fun r1 r1' => ?_⟩
    simp [aField, aLd_at (upd_eq H o _), hc]
    refine C_i_Graph_isNode g1.1 hn ?_
    simp
    refine ⟨fun q => no fun hh => by have := hh.2.1; unfold nodesIn at this; omega, fun r2 r2' => ?_⟩
    refine ⟨fun q => no fun hh => hh.2.2.1 q, fun r3 => ?_⟩
    refine C_i_LsaOk hr' (by omega) ?_
    simp
    refine Ret.eq hk ?_
    have : msgOk a.up.n m ↔ lsaOk m.2.2 := ⟨fun hh => hh.2.2.2, fun hh => ⟨⟨r1, r1'⟩, ⟨r2, r2'⟩, r3, hh⟩⟩
    simp [this]
  rw [chk_any, wires_any]
  simp
  refine h' _ ?_
  have : netOk a ↔ wiresOk a.up.n a.wires := ⟨fun hh => hh.2.2.2.2.2.2.2, fun hh => ⟨q1, by omega, q3, q4, by omega, by omega, q7, hh⟩⟩
  simp [this]
end Go.Proofs.YtaippfedjjjpeaaGreat
