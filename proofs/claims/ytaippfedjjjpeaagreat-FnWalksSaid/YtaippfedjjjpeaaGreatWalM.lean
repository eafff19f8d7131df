/-
Contracts of WayCost; the law WalkCost.
-/
import Derived.Test.YtaippfedjjjpeaaGreatGraphM
import Derived.Test.YtaippfedjjjpeaaGreatRefM
import Derived.Test.YtaippfedjjjpeaaGreatRtM
import Derived.Test.YtaippfedjjjpeaaGreatTabM
set_option linter.all false
namespace Go.Proofs.YtaippfedjjjpeaaGreat
open Go Go.Abs Go.Proofs

def wayR (n : Int) (es : List TEdge) (ws : List Int) : Nat → Option Int
  | 0 => some 0
  | i + 1 => match wayR n es ws i with
    | none => none
    | some s => if ¬ (0 ≤ ws.getD i 0 ∧ ws.getD i 0 < n) then none
      else if i = 0 then some s
      else if ws.getD i 0 = ws.getD (i - 1) 0 ∨ cost n es (ws.getD (i - 1) 0) (ws.getD i 0) = 1000000 then none
      else some (IntKind.i64.wrap (s + cost n es (ws.getD (i - 1) 0) (ws.getD i 0)))
def wayCost (n : Int) (es : List TEdge) (ws : List Int) : Int :=
  if ¬ graphOk n es ∨ ws.length = 0 ∨ 300 < ws.length then -1 else (wayR n es ws ws.length).getD (-1)
theorem wayR_step {n : Int} {es : List TEdge} {ws : List Int} {i : Nat} {s : Int} (h : wayR n es ws i = some s) : wayR n es ws (i + 1) =
    (if ¬ (0 ≤ ws.getD i 0 ∧ ws.getD i 0 < n) then none
      else if i = 0 then some s
      else if ws.getD i 0 = ws.getD (i - 1) 0 ∨ cost n es (ws.getD (i - 1) 0) (ws.getD i 0) = 1000000 then none
      else some (IntKind.i64.wrap (s + cost n es (ws.getD (i - 1) 0) (ws.getD i 0)))) := by
  rw [wayR, h]
theorem wayR_none {n : Int} {es : List TEdge} {ws : List Int} {i : Nat} (h : wayR n es ws i = none) : ∀ {j : Nat}, i ≤ j → wayR n es ws j = none
  | 0, hj => by have : i = 0 := by omega
                subst this; exact h
  | j + 1, hj => by
    by_cases e : i = j + 1
    · subst e; exact h
    · rw [wayR, wayR_none h (j := j) (by omega)]
theorem wayCost_bad {n : Int} {es : List TEdge} {ws : List Int} (h : ¬ graphOk n es ∨ ws.length = 0 ∨ 300 < ws.length) : wayCost n es ws = -1 := by unfold wayCost; rw [if_pos h]
theorem wayCost_none {n : Int} {es : List TEdge} {ws : List Int} {i : Nat} (hi : i ≤ ws.length) (h : wayR n es ws i = none) : wayCost n es ws = -1 := by
  unfold wayCost
  split
  · rfl
  · rw [wayR_none h hi]; rfl
theorem wayCost_some {n : Int} {es : List TEdge} {ws : List Int} {s : Int} (hg : graphOk n es) (h0 : ws.length ≠ 0) (h1 : ws.length ≤ 300) (h : wayR n es ws ws.length = some s) : wayCost n es ws = s := by
  unfold wayCost
  rw [if_neg (by intro hh; rcases hh with hh | hh | hh; exact hh hg; exact h0 hh; omega), h]; rfl

def InvWy (n : Int) (es : List TEdge) (ws : List Int) (H : Heap) (m : Nat) (ys : List V) (Hc : Heap) : Prop :=
  ∃ i s, i ≤ ws.length ∧ ys = [.int .i64 s, .int .i64 (i : Nat)] ∧ m = ws.length - i ∧ Hc = H ∧ wayR n es ws i = some s

def InvW1 (n : Int) (es : List TEdge) (ws : List Int) (H : Heap) (m : Nat) (ys : List V) (Hc : Heap) : Prop :=
  ∃ i s, 1 ≤ i ∧ i ≤ ws.length ∧ ys = [.int .i64 s, .int .i64 (i : Nat)] ∧ m = ws.length - i ∧ Hc = H ∧ wayR n es ws i = some s ∧ (0 ≤ ws.getD (i - 1) 0 ∧ ws.getD (i - 1) 0 < n)

set_option maxHeartbeats 1000000 in
theorem C_i_WayCost {n : Int} {v w : V} {es : List TEdge} {ws : List Int} {H : Heap} {K : V → Heap → Prop} (hv : Rd H 3 v (es.map enEdge)) (hw : Rd H 1 w (ws.map ri)) (h : K (.int .i64 (wayCost n es ws)) H) : ACalls P n_i_WayCost [vG n v, w] H K := by
  have hc := hv.cell
  apply W_i_WayCost
  unfold F_i_WayCost
  simp [hc]
  refine ⟨_, Abs.sub_refl _, ?_⟩
  refine C_i_GraphOk hv ?_
  simp
  refine ⟨fun q => Ret.eq h (by rw [wayCost_bad (.inl q)]), fun hg => ?_⟩
  simp [hw.len]
  apply C_i_within
  simp
  refine ⟨fun q => Ret.eq h (by rw [wayCost_bad (.inr (by omega))]), fun q0 q1 => ?_⟩
  have hn := hg.1
  have h0 : 0 < ws.length := by omega
  refine hw.idx (by omega) (by simpa using h0) fun p hp => ?_
  simp only [hp.ld]
  simp [h0]
  have hg0 : ws.getD 0 0 = ws[0] := by simp [h0]
  have step0 := wayR_step (n := n) (es := es) (ws := ws) (i := 0) (s := 0) rfl
  rw [hg0] at step0
  refine C_i_Graph_isNode hv hn ?_
  simp
  refine ⟨fun q => Ret.eq h (by rw [wayCost_none (i := 0 + 1) (by omega) (by rw [step0, if_pos (by omega)])]), fun q2 q3 => ?_⟩
  rw [if_neg (by omega), if_pos rfl] at step0
  refine ⟨InvW1 n es ws H, ⟨ws.length - 1, Shr.of ⟨1, 0, by omega, by omega, by simp, by omega, rfl, step0, by simp only [Nat.sub_self, hg0]; omega⟩⟩, ?_⟩
  rintro m ys Hc ⟨i, s, h1, hi, rfl, rfl, rfl, hs, hnode⟩
  simp [hw.len]
  refine ⟨fun hlt => ⟨_, Abs.sub_refl _, ?_⟩, fun hge => ?_⟩
  · have hg1 : ws.getD i 0 = ws[i] := by simp [hlt]
    have step := wayR_step hs
    rw [hg1] at step
    rw [i64_in (n := (i : Int) + 1) (by omega) (by omega)]
    have hlt' : i - 1 < ws.length := by omega
    have e1 : ((i : Int) - 1).toNat = i - 1 := by omega
    have hg2 : ws.getD (i - 1) 0 = ws[i - 1] := by simp [hlt']
    rw [hg2] at hnode step
    rw [i64_in (n := (i : Int) - 1) (by omega) (by omega)]
    refine hw.idx (by omega) (by simp; omega) fun p' hp' => ?_
    simp only [hp'.ld, e1]
    simp [hlt']
    refine hw.idx (by omega) (by simpa using hlt) fun p hp => ?_
    simp only [hp.ld]
    simp [hlt]
    refine C_i_Graph_cost hv hg ?_
    simp
    refine ⟨_, Abs.sub_refl _, ?_⟩
    by_cases hin : 0 ≤ ws[i] ∧ ws[i] < n
    · rw [if_neg (by omega), if_neg (by omega)] at step
      refine ⟨fun q => Ret.eq h (by rw [wayCost_none (i := i + 1) (by omega) (by rw [step, if_pos (.inr q)])]), fun q5 => ?_⟩
      refine hw.idx (by omega) (by simpa using hlt) fun p hp => ?_
      simp only [hp.ld]
      simp [hlt]
      refine hw.idx (by omega) (by simp; omega) fun p' hp' => ?_
      simp only [hp'.ld, e1]
      simp [hlt']
      refine ⟨fun q => Ret.eq h (by rw [wayCost_none (i := i + 1) (by omega) (by rw [step, if_pos (.inl q)])]), fun q4 => ?_⟩
      rw [if_neg (by intro hh; rcases hh with hh | hh; exact q4 hh; exact q5 hh)] at step
      exact ⟨ws.length - (i + 1), by omega, Shr.of ⟨i + 1, _, by omega, by omega, rfl, rfl, rfl, step, by simp only [Nat.add_sub_cancel, hg1]; exact hin⟩⟩
    · rw [if_pos hin] at step
      rw [cost_out hg (.inr hin)]
      refine ⟨fun _ => Ret.eq h (by rw [wayCost_none (i := i + 1) (by omega) step]), fun q => absurd rfl q⟩
  · have : i = ws.length := by omega
    subst this
    exact Ret.eq h (by rw [wayCost_some hg (by omega) (by omega) hs])

end Go.Proofs.YtaippfedjjjpeaaGreat
/-
Plain terms: the tables of one database; a walk to an address with just one owner ends there, at the distance's cost.
-/
namespace Go.Proofs.YtaippfedjjjpeaaGreat
open Go Go.Abs Go.Proofs

def psx (xs : List TLsa) : List (Int × Int) := (tabF (pAll xs)).map pfx
def tbl (xs : List TLsa) (x : Int) : List TRoute := rtsR xs (edgesOf xs xs) x (psx xs)
def tbls (xs : List TLsa) (n : Nat) : List (List TRoute) := (List.range n).map fun i => tbl xs (i : Nat)
theorem tbls_tb {xs : List TLsa} {x : Int} (h : 0 ≤ x ∧ x < 10) : tb (tbls xs 10) x.toNat = tbl xs x := by
  unfold tb tbls
  have : x.toNat < 10 := by omega
  rw [List.getD_eq_getElem?_getD, List.getElem?_map, List.getElem?_range this]
  simp
  rw [show max x 0 = x by omega]
theorem tbls_len (xs : List TLsa) (n : Nat) : (tbls xs n).length = n := by simp [tbls]
theorem psx_tb {xs : List TLsa} (hd : dbOk xs) : Tb (pAll xs) (tabF (pAll xs)) := by
  obtain ⟨p1, p2⟩ := pAll_ok hd
  exact tab_tb p1 p2
theorem psx_pw {xs : List TLsa} (hd : dbOk xs) : (psx xs).Pairwise ltP := by
  unfold psx
  rw [List.pairwise_map]
  exact (psx_tb hd).pw.imp fun q => by unfold ahead at q; unfold ltP pfx; exact q
theorem mem_psx {xs : List TLsa} (hd : dbOk xs) {p : Int × Int} : p ∈ psx xs ↔ ∃ q ∈ prs xs, pfx q.2 = p := by
  unfold psx
  rw [(psx_tb hd).mem]
  unfold pAll prs
  simp only [List.mem_flatMap, List.mem_map]
  constructor
  · rintro ⟨a, ha, s, hs, rfl⟩
    exact ⟨(a.origin, s), ⟨a, ha, s, hs, rfl⟩, rfl⟩
  · rintro ⟨_, ⟨a, ha, s, hs, rfl⟩, rfl⟩
    exact ⟨a, ha, s, hs, rfl⟩
theorem fold_filter {α β : Type} {f : β → α → β} {P : α → Bool} (h : ∀ t x, P x = false → f t x = t) : ∀ (l : List α) (t : β), l.foldl f t = (l.filter P).foldl f t
  | [], _ => rfl
  | x :: l, t => by
    cases e : P x with
    | true =>
      rw [List.filter_cons_of_pos e]
      exact fold_filter h l _
    | false =>
      rw [List.filter_cons_of_neg (by simp [e]), List.foldl_cons, h t x e]
      exact fold_filter h l _
theorem filter_one {α : Type} {P : α → Bool} {p0 : α} : ∀ {l : List α}, l.Pairwise (fun x y => x ≠ y) → p0 ∈ l → (∀ q ∈ l, P q = true ↔ q = p0) → l.filter P = [p0]
  | [], _, hm, _ => by simp at hm
  | x :: l, nd, hm, h => by
    obtain ⟨n1, n2⟩ := List.pairwise_cons.1 nd
    by_cases e : x = p0
    · subst e
      rw [List.filter_cons_of_pos ((h x (by simp)).2 rfl)]
      have : l.filter P = [] := List.filter_eq_nil_iff.2 fun y hy hp => n1 y hy ((h y (by simp [hy])).1 hp).symm
      rw [this]
    · rw [List.filter_cons_of_neg (fun q => e ((h x (by simp)).1 q))]
      refine filter_one n2 ?_ fun q hq => h q (by simp [hq])
      rcases List.mem_cons.1 hm with q | q
      · exact absurd q.symm e
      · exact q
def own (a : Int) (q : Int × TStub) : Bool := decide (hasA q.2.1 q.2.2.1 a)
def hasP (a : Int) (p : Int × Int) : Bool := decide (hasA p.1 p.2 a)
theorem own_pfx (a : Int) (q : Int × TStub) : own a q = hasP a (pfx q.2) := rfl
theorem own_in {xs : List TLsa} {a : Int} {q0 : Int × TStub} (ho : (prs xs).filter (own a) = [q0]) : q0 ∈ prs xs ∧ own a q0 = true := by
  have : q0 ∈ (prs xs).filter (own a) := by rw [ho]; simp
  exact List.mem_filter.1 this
theorem near_one {xs : List TLsa} {es : List TEdge} {x a : Int} {q0 : Int × TStub} (hd : dbOk xs) (hg : graphOk 10 es) (ho : (prs xs).filter (own a) = [q0]) : (nearF (pfx q0.2) (far 10 es x) (prs xs)).1 = if far 10 es x q0.1 = 1000000 then [] else [q0.1] := by
  obtain ⟨hm, h1⟩ := own_in ho
  unfold nearF
  rw [fold_filter (P := fun q => decide (pfx q.2 = pfx q0.2)) (fun t q hq => by unfold stepN; rw [if_pos (.inl (by simpa using hq))])]
  have e : (prs xs).filter (fun q => decide (pfx q.2 = pfx q0.2)) = [q0] := by
    have : (prs xs).filter (fun q => decide (pfx q.2 = pfx q0.2)) = ((prs xs).filter (own a)).filter (fun q => decide (pfx q.2 = pfx q0.2)) := by
      rw [List.filter_filter]
      refine List.filter_congr fun q _ => ?_
      by_cases e : pfx q.2 = pfx q0.2
      · have : own a q = true := by rw [own_pfx, e, ← own_pfx]; exact h1
        simp [e, this]
      · simp [e]
    rw [this, ho]
    simp
  rw [e]
  simp only [List.foldl_cons, List.foldl_nil]
  have c := prs_cost hd q0 hm
  by_cases e : far 10 es x q0.1 = 1000000
  · rw [if_pos e]
    unfold stepN
    rw [if_pos (.inr (.inl e))]
  · have := far_small hg (a := x) c.1 e
    rw [if_neg e]
    unfold stepN
    rw [if_neg (by simp [e]; omega), if_pos (by simp only; omega)]
theorem psx_one {xs : List TLsa} {a : Int} {q0 : Int × TStub} (hd : dbOk xs) (ho : (prs xs).filter (own a) = [q0]) : (psx xs).filter (hasP a) = [pfx q0.2] := by
  obtain ⟨hm, h1⟩ := own_in ho
  have nd : (psx xs).Pairwise (fun x y => x ≠ y) := (psx_pw hd).imp (fun h e => by rw [e] at h; exact ltP_irr _ h)
  refine filter_one nd ((mem_psx hd).2 ⟨q0, hm, rfl⟩) fun q hq => ?_
  constructor
  · intro h
    obtain ⟨r, hr, rfl⟩ := (mem_psx hd).1 hq
    have : r ∈ (prs xs).filter (own a) := List.mem_filter.2 ⟨hr, h⟩
    rw [ho] at this
    rw [show r = q0 by simpa using this]
  · rintro rfl
    exact h1
theorem one_pfx {xs : List TLsa} {es : List TEdge} {x : Int} {p : Int × Int} {r : TStub} (h : oneR xs es x p = some r) : pfx r = p := by
  unfold oneR at h
  split at h
  · simp at h
  · have : (p.1, p.2, hopP es x (nearF p (far 10 es x) (prs xs)).1) = r := by simpa using h
    rw [← this]
    rfl
theorem tbl_filter {xs : List TLsa} {x a : Int} {q0 : Int × TStub} (hd : dbOk xs) (ho : (prs xs).filter (own a) = [q0]) : (tbl xs x).filter (fun r => hasP a (pfx r)) = (oneR xs (edgesOf xs xs) x (pfx q0.2)).toList := by
  have e : (tbl xs x).filter (fun r => hasP a (pfx r)) = ((psx xs).filter (hasP a)).filterMap (oneR xs (edgesOf xs xs) x) := by
    unfold tbl rtsR
    rw [List.filter_filterMap, List.filterMap_filter]
    congr 1
    funext p
    cases e : oneR xs (edgesOf xs xs) x p with
    | none => simp
    | some r =>
      have := one_pfx e
      by_cases c : hasP a p = true
      · simp [Option.filter, this, c]
      · simp [Option.filter, this, c]
  rw [e, psx_one hd ho]
  cases e : oneR xs (edgesOf xs xs) x (pfx q0.2) <;> simp [e]
theorem hop_one {xs : List TLsa} {x a : Int} {q0 : Int × TStub} (hd : dbOk xs) (hg : graphOk 10 (edgesOf xs xs)) (ho : (prs xs).filter (own a) = [q0]) :
    hopT a (tbl xs x) = if far 10 (edgesOf xs xs) x q0.1 = 1000000 then -1 else hopP (edgesOf xs xs) x [q0.1] := by
  have hb : bestOf a (tbl xs x) = (oneR xs (edgesOf xs xs) x (pfx q0.2)).toList.foldl (bestStep a) (false, (0, 0, 0)) := by
    unfold bestOf
    rw [fold_filter (P := fun r => hasP a (pfx r)) (fun t r hr => by
      unfold bestStep
      rw [if_neg]
      rintro ⟨q, _⟩
      have : hasP a (pfx r) = true := by unfold hasP pfx; simpa using q
      rw [this] at hr
      simp at hr), tbl_filter hd ho]
  have hn := near_one (x := x) hd hg ho
  have h1 := (own_in ho).2
  unfold hopT
  rw [hb]
  by_cases e : far 10 (edgesOf xs xs) x q0.1 = 1000000
  · rw [if_pos e] at hn ⊢
    unfold oneR
    rw [if_pos hn]
    simp
  · rw [if_neg e] at hn ⊢
    unfold oneR
    rw [hn, if_neg (show ¬ ([q0.1] : List Int) = [] by simp)]
    have hA : hasA (pfx q0.2).1 (pfx q0.2).2 a := by unfold own at h1; simpa [pfx] using h1
    simp [bestStep, hA]
theorem far_self {es : List TEdge} (hg : graphOk 10 es) {o : Int} (h : 0 ≤ o ∧ o < 10) : far 10 es o o = 0 := by
  have := far_le hg h (.nil : Way es o o 0)
  have := far_in hg o h.1 h.2
  omega
def Stp (es : List TEdge) (o x m : Int) : Prop := (0 ≤ m ∧ m < 10) ∧ x ≠ m ∧ cost 10 es x m ≠ 1000000 ∧ 1 ≤ cost 10 es x m ∧ cost 10 es x m + far 10 es m o = far 10 es x o
theorem hop_home (es : List TEdge) (o : Int) : hopP es o [o] = 0 := by unfold hopP; rw [if_pos (by simp)]
theorem hop_step {es : List TEdge} (hg : graphOk 10 es) {x o : Int} (hx : 0 ≤ x ∧ x < 10) (ho : 0 ≤ o ∧ o < 10) (hne : x ≠ o) (h : far 10 es x o ≠ 1000000) : (1 ≤ hopP es x [o] ∧ hopP es x [o] ≤ 10) ∧ Stp es o x (hopP es x [o] - 1) := by
  have hn := hops_ne hg hx ho hne h
  unfold hopP
  rw [if_neg (by simpa using hne)]
  have e : hopsA es x [o] = hops 10 es x o := by unfold hopsA; simp
  rw [e]
  have hm := (minL_spec hn).1
  have r := hops_in hg hm
  generalize minL (hops 10 es x o) = m at *
  refine ⟨by omega, ?_⟩
  rw [show 1 + m - 1 = m by omega]
  unfold hops at hm
  rw [if_neg (by omega)] at hm
  obtain ⟨e, e1, e2⟩ := List.mem_filterMap.1 hm
  unfold hopAt at e2
  split at e2
  · rename_i q
    have ok := edge_ok hg e1
    obtain rfl : e.2.1 = m := by simpa using e2
    have c : cost 10 es x e.2.1 = e.2.2 := by rw [← q.1, cost_look ok.2.2.1, look_edge hg e1]
    refine ⟨r, by rw [← q.1]; exact ok.2.2.1, by omega, by omega, by omega⟩
  · simp at e2
/-- Nodes that are nearer to o. -/
def rk (es : List TEdge) (o x : Int) : Nat := ((List.range 10).filter fun i => decide (far 10 es (i : Nat) o < far 10 es x o)).length
theorem rk_le (es : List TEdge) (o x : Int) : rk es o x ≤ 10 := by
  unfold rk
  have := List.length_filter_le (fun i : Nat => decide (far 10 es (i : Nat) o < far 10 es x o)) (List.range 10)
  simpa using this
theorem rk_lt {es : List TEdge} {o x m : Int} (hm : 0 ≤ m ∧ m < 10) (h : far 10 es m o < far 10 es x o) : rk es o m < rk es o x := by
  unfold rk
  refine filter_lt (y := m.toNat) ?_ ?_ (fun z _ hz => ?_) (by simp; omega)
  · simp [show max m 0 = m by omega]
  · simp [show max m 0 = m by omega, h]
  · simp at hz ⊢
    omega
def Fw (es : List TEdge) (o : Int) (ws : List Int) : Prop := ws ≠ [] ∧ (∀ i, i < ws.length → 0 ≤ ws.getD i 0 ∧ ws.getD i 0 < 10) ∧ ∀ i, i + 1 < ws.length → Stp es o (ws.getD i 0) (ws.getD (i + 1) 0)
theorem fw_snoc {es : List TEdge} {o m : Int} {ws : List Int} (h : Fw es o ws) (hs : Stp es o (ws.getD (ws.length - 1) 0) m) : Fw es o (ws ++ [m]) := by
  obtain ⟨h1, h2, h3⟩ := h
  have hp : 0 < ws.length := List.length_pos_iff.2 h1
  have g : ∀ i, i < ws.length → (ws ++ [m]).getD i 0 = ws.getD i 0 := fun i hi => by
    rw [List.getD_eq_getElem?_getD, List.getElem?_append_left hi, ← List.getD_eq_getElem?_getD]
  have gl : (ws ++ [m]).getD ws.length 0 = m := by simp
  refine ⟨by simp, fun i hi => ?_, fun i hi => ?_⟩
  · by_cases e : i < ws.length
    · rw [g i e]; exact h2 i e
    · have : i = ws.length := by simp at hi; omega
      subst this
      rw [gl]
      exact hs.1
  · by_cases e : i + 1 < ws.length
    · rw [g i (by omega), g (i + 1) e]; exact h3 i e
    · have e2 : i + 1 = ws.length := by simp at hi; omega
      rw [e2, gl, g i (by omega), show i = ws.length - 1 by omega]
      exact hs
theorem walk_home {xs : List TLsa} {a : Int} {q0 : Int × TStub} (hd : dbOk xs) (hg : graphOk 10 (edgesOf xs xs)) (ho : (prs xs).filter (own a) = [q0]) :
    ∀ (n : Nat) (x : Int) (way : List Int), (0 ≤ x ∧ x < 10) → Fw (edgesOf xs xs) q0.1 way → way.getD (way.length - 1) 0 = x → far 10 (edgesOf xs xs) x q0.1 ≠ 1000000 → rk (edgesOf xs xs) q0.1 x ≤ n →
      ∃ ws, walkP (tbls xs 10) a n x way = (ws, 0) ∧ Fw (edgesOf xs xs) q0.1 ws ∧ ws.getD 0 0 = way.getD 0 0 ∧ ws.getD (ws.length - 1) 0 = q0.1 := by
  have hh := (prs_cost hd q0 (own_in ho).1).1
  intro n
  induction n with
  | zero =>
    intro x way hx hf hl hr hk
    have ht := hop_one (x := x) hd hg ho
    rw [if_neg hr, ← tbls_tb hx] at ht
    by_cases e : x = q0.1
    · rw [e] at ht
      rw [hop_home] at ht
      refine ⟨way, walkP_home (by rw [e]; exact ht), hf, rfl, by rw [hl, e]⟩
    · obtain ⟨_, s⟩ := hop_step hg hx hh e hr
      have : far 10 (edgesOf xs xs) (hopP (edgesOf xs xs) x [q0.1] - 1) q0.1 < far 10 (edgesOf xs xs) x q0.1 := by have := s.2.2.2; omega
      have := rk_lt s.1 this
      omega
  | succ n ih =>
    intro x way hx hf hl hr hk
    have ht := hop_one (x := x) hd hg ho
    rw [if_neg hr, ← tbls_tb hx] at ht
    by_cases e : x = q0.1
    · rw [e] at ht
      rw [hop_home] at ht
      refine ⟨way, walkP_home (by rw [e]; exact ht), hf, rfl, by rw [hl, e]⟩
    · obtain ⟨b, s⟩ := hop_step hg hx hh e hr
      have lt : far 10 (edgesOf xs xs) (hopP (edgesOf xs xs) x [q0.1] - 1) q0.1 < far 10 (edgesOf xs xs) x q0.1 := by have := s.2.2.2; omega
      have rl := rk_lt s.1 lt
      have fx := far_in hg x hh.1 hh.2
      have tl := tbls_len xs 10
      rw [walkP_go (by rw [ht]; omega) (by rw [ht]; omega), ht]
      have hp : 0 < way.length := List.length_pos_iff.2 hf.1
      obtain ⟨ws, w1, w2, w3, w4⟩ := ih _ (way ++ [hopP (edgesOf xs xs) x [q0.1] - 1]) s.1 (fw_snoc hf (by rw [hl]; exact s)) (by simp) (by omega) (by omega)
      refine ⟨ws, w1, w2, ?_, w4⟩
      rw [w3, List.getD_eq_getElem?_getD, List.getElem?_append_left hp, ← List.getD_eq_getElem?_getD]
theorem walk_none {xs : List TLsa} {a x : Int} {n : Nat} {way : List Int} {q0 : Int × TStub} (hd : dbOk xs) (hg : graphOk 10 (edgesOf xs xs)) (ho : (prs xs).filter (own a) = [q0]) (hx : 0 ≤ x ∧ x < 10) (h : far 10 (edgesOf xs xs) x q0.1 = 1000000) : walkP (tbls xs 10) a n x way = (way, 1) := by
  refine walkP_none (.inl ?_)
  rw [tbls_tb hx, hop_one hd hg ho, if_pos h]
  omega
theorem fw_cost {es : List TEdge} (hg : graphOk 10 es) {o : Int} (ho : 0 ≤ o ∧ o < 10) {ws : List Int} (h : Fw es o ws) : ∀ i, i < ws.length → wayR 10 es ws (i + 1) = some (far 10 es (ws.getD 0 0) o - far 10 es (ws.getD i 0) o) := by
  intro i
  induction i with
  | zero =>
    intro hi
    have r := h.2.1 0 hi
    rw [wayR_step (s := 0) rfl, if_neg (by simpa using r), if_pos rfl]
    simp
  | succ i ih =>
    intro hi
    have s := h.2.2 i hi
    have f0 := far_in hg (ws.getD 0 0) ho.1 ho.2
    have f1 := far_in hg (ws.getD i 0) ho.1 ho.2
    have f2 := far_in hg (ws.getD (i + 1) 0) ho.1 ho.2
    rw [wayR_step (ih (by omega)), if_neg (by simpa using h.2.1 (i + 1) hi), if_neg (by omega), if_neg (by
      rw [show i + 1 - 1 = i by omega]
      rintro (q | q)
      · exact s.2.1 q.symm
      · exact s.2.2.1 q), show i + 1 - 1 = i by omega]
    obtain ⟨_, _, _, s4, s5⟩ := s
    rw [i64_in (by omega) (by omega)]
    congr 1
    omega
theorem way_far {es : List TEdge} (hg : graphOk 10 es) {o : Int} (ho : 0 ≤ o ∧ o < 10) {ws : List Int} (h : Fw es o ws) (hl : ws.length ≤ 300) (he : ws.getD (ws.length - 1) 0 = o) : wayCost 10 es ws = far 10 es (ws.getD 0 0) o := by
  have hp : 0 < ws.length := List.length_pos_iff.2 h.1
  have := fw_cost hg ho h (ws.length - 1) (by omega)
  rw [show ws.length - 1 + 1 = ws.length by omega, he, far_self hg ho] at this
  unfold wayCost
  rw [if_neg (by
    rintro (q | q | q)
    · exact q hg
    · omega
    · omega), this]
  simp
/-- What the walks from x do. -/
theorem walk_at {xs : List TLsa} {a x : Int} {q0 : Int × TStub} (hd : dbOk xs) (hg : graphOk 10 (edgesOf xs xs)) (ho : (prs xs).filter (own a) = [q0]) (hx : 0 ≤ x ∧ x < 10) :
    (far 10 (edgesOf xs xs) x q0.1 = 1000000 → (walk (tbls xs 10) x a 16).2 = 1) ∧ (far 10 (edgesOf xs xs) x q0.1 ≠ 1000000 → (walk (tbls xs 10) x a 16).2 = 0 ∧ (walk (tbls xs 10) x a 16).1 ≠ [] ∧ (walk (tbls xs 10) x a 16).1.getD ((walk (tbls xs 10) x a 16).1.length - 1) 0 = q0.1 ∧ wayCost 10 (edgesOf xs xs) (walk (tbls xs 10) x a 16).1 = far 10 (edgesOf xs xs) x q0.1) := by
  have hh := (prs_cost hd q0 (own_in ho).1).1
  constructor
  · intro h
    unfold walk
    rw [walk_none hd hg ho hx h]
  · intro h
    have hl := walk_len (ts := tbls xs 10) (f := x) (a := a) (ttl := 16) (by omega)
    have hr := rk_le (edgesOf xs xs) q0.1 x
    obtain ⟨ws, w1, w2, w3, w4⟩ := walk_home hd hg ho 16 x [x] hx ⟨by simp, fun i hi => by
      have : i = 0 := by simp at hi; omega
      subst this
      simpa using hx, fun i hi => by simp at hi⟩ (by simp) h (by omega)
    have e : walk (tbls xs 10) x a 16 = (ws, 0) := by unfold walk; exact w1
    rw [e] at hl ⊢
    refine ⟨rfl, w2.1, w4, ?_⟩
    rw [way_far hg hh w2 (by simp only at hl; omega) w4, w3]
    rfl
theorem sink_at {xs : List TLsa} {a x : Int} {q0 : Int × TStub} (hd : dbOk xs) (hg : graphOk 10 (edgesOf xs xs)) (ho : (prs xs).filter (own a) = [q0]) (hx : 0 ≤ x ∧ x < 10) : (walk (tbls xs 10) x a 0).2 = 0 ↔ x = q0.1 := by
  have hh := (prs_cost hd q0 (own_in ho).1).1
  have ht := hop_one (x := x) hd hg ho
  rw [← tbls_tb hx] at ht
  by_cases h : far 10 (edgesOf xs xs) x q0.1 = 1000000
  · unfold walk
    rw [walk_none hd hg ho hx h]
    simp
    rintro rfl
    rw [far_self hg hh] at h
    omega
  · rw [if_neg h] at ht
    constructor
    · intro w
      by_cases e : x = q0.1
      · exact e
      · obtain ⟨b, _⟩ := hop_step hg hx hh e h
        have tl := tbls_len xs 10
        unfold walk at w
        rw [show ((0 : Int).toNat) = 0 from rfl, walkP_loop (by rw [ht]; omega) (by rw [ht]; omega)] at w
        simp at w
    · rintro rfl
      rw [hop_home] at ht
      unfold walk
      rw [walkP_home ht]
theorem tbl_ok {xs : List TLsa} {x : Int} (hd : dbOk xs) (hg : graphOk 10 (edgesOf xs xs)) (hx : 0 ≤ x ∧ x < 10) : tabOk (tbl xs x) := by
  have t := psx_tb hd
  have pl := (pAll_ok hd).1
  have tl := t.len
  have hp : ∀ p ∈ psx xs, prefOk p.1 p.2 := fun p hp => by
    unfold psx at hp
    obtain ⟨r, hr, rfl⟩ := List.mem_map.1 hp
    exact (t.ok r hr).1
  refine tab_iff.2 ⟨?_, fun r hr => ?_, ?_⟩
  · have := rts_len xs (edgesOf xs xs) x (psx xs)
    unfold tbl
    unfold psx at this ⊢
    simp only [List.length_map] at this
    omega
  · unfold tbl rtsR at hr
    obtain ⟨p, hp1, hr⟩ := List.mem_filterMap.1 hr
    have := hp p hp1
    rw [← one_pfx hr] at this
    refine ⟨this, ?_⟩
    unfold oneR at hr
    split at hr
    · simp at hr
    rename_i hne
    have nk := near_ok (p := p) (ds := far 10 (edgesOf xs xs) x) hd
    have he : (p.1, p.2, hopP (edgesOf xs xs) x (nearF p (far 10 (edgesOf xs xs) x) (prs xs)).1) = r := by simpa using hr
    rw [← he]
    generalize (nearF p (far 10 (edgesOf xs xs) x) (prs xs)).1 = L at *
    simp only
    unfold hopP
    split
    · omega
    rename_i hfL
    have hA : hopsA (edgesOf xs xs) x L ≠ [] := by
      cases L with
      | nil => exact absurd rfl hne
      | cons o L =>
        have ⟨o1, o2, o3⟩ := nk o (by simp)
        have := hops_ne hg hx ⟨o2, o3⟩ (fun e => hfL (by simp [e])) o1
        unfold hopsA
        simp only [List.flatMap_cons]
        intro e
        exact this (List.append_eq_nil_iff.1 e).1
    have hm := (minL_spec hA).1
    generalize minL (hopsA (edgesOf xs xs) x L) = mm at hm ⊢
    unfold hopsA at hm
    obtain ⟨o, _, hm⟩ := List.mem_flatMap.1 hm
    have := hops_in hg hm
    omega
  · unfold tbl rtsR
    refine List.Pairwise.filterMap _ ?_ (psx_pw hd)
    intro p q h r hr s hs
    have e1 := one_pfx hr
    have e2 := one_pfx hs
    rw [← e1, ← e2] at h
    unfold ltP pfx at h
    exact h
theorem fine_tbls {xs : List TLsa} {a x : Int} (hd : dbOk xs) (hg : graphOk 10 (edgesOf xs xs)) (ha : addrOk a) (hx : 0 ≤ x ∧ x < 10) : fineT (tbls xs 10) x a := by
  have tl := tbls_len xs 10
  refine ⟨by omega, by omega, ha, fun i hi => ?_⟩
  have := tbls_tb (xs := xs) (x := (i : Nat)) (by omega)
  rw [Int.toNat_natCast] at this
  rw [this]
  exact tbl_ok hd hg (by omega)
theorem fil_none {q : Int → Bool} {n : Nat} (h : ∀ x : Int, 0 ≤ x → x < n → q x = false) : fil q n = [] := by
  refine List.eq_nil_iff_forall_not_mem.2 fun x hx => ?_
  obtain ⟨h1, h2⟩ := mem_fil hx
  rw [h x h1.1 h1.2] at h2
  simp at h2
theorem fil_just {q : Int → Bool} {o : Int} (ho : 0 ≤ o ∧ o < 10) (h : ∀ x : Int, 0 ≤ x → x < 10 → (q x = true ↔ x = o)) : fil q 10 = [o] := by
  unfold fil
  refine filter_one ?_ ?_ fun x hx => ?_
  · rw [List.pairwise_map]
    exact List.nodup_range.imp fun h e => h (by omega)
  · exact List.mem_map.2 ⟨o.toNat, by simp; omega, by omega⟩
  · obtain ⟨i, hi, rfl⟩ := List.mem_map.1 hx
    have := List.mem_range.1 hi
    exact h _ (by omega) (by omega)
theorem no_loops {xs : List TLsa} {a : Int} {q0 : Int × TStub} (hd : dbOk xs) (hg : graphOk 10 (edgesOf xs xs)) (ho : (prs xs).filter (own a) = [q0]) : nodesW (tbls xs 10) a 16 2 = [] := by
  unfold nodesW
  split
  · rw [tbls_len]
    refine fil_none fun x h0 h1 => ?_
    obtain ⟨w1, w2⟩ := walk_at (x := x) hd hg ho ⟨h0, h1⟩
    unfold endQ
    by_cases e : far 10 (edgesOf xs xs) x q0.1 = 1000000
    · simp [w1 e]
    · simp [(w2 e).1]
  · rfl
theorem the_sink {xs : List TLsa} {a : Int} {q0 : Int × TStub} (hd : dbOk xs) (hg : graphOk 10 (edgesOf xs xs)) (ha : addrOk a) (ho : (prs xs).filter (own a) = [q0]) : nodesW (tbls xs 10) a 0 0 = [q0.1] := by
  have hh := (prs_cost hd q0 (own_in ho).1).1
  unfold nodesW
  rw [if_pos (fine_tbls hd hg ha (by omega)), tbls_len]
  refine fil_just hh fun x h0 h1 => ?_
  unfold endQ
  rw [decide_eq_true_iff]
  exact sink_at hd hg ho ⟨h0, h1⟩
theorem home_count {xs : List TLsa} {a : Int} {q0 : Int × TStub} (hd : dbOk xs) (hg : graphOk 10 (edgesOf xs xs)) (ha : addrOk a) (ho : (prs xs).filter (own a) = [q0]) : countHome (tbls xs 10) a = ((fil (fun x => decide (far 10 (edgesOf xs xs) x q0.1 ≠ 1000000)) 10).length : Nat) := by
  unfold countHome
  rw [if_pos (fine_tbls hd hg ha (by omega))]
  unfold nodesW
  rw [if_pos (fine_tbls hd hg ha (by omega)), tbls_len]
  congr 1
  congr 1
  unfold fil
  refine List.filter_congr fun x hx => ?_
  obtain ⟨i, hi, rfl⟩ := List.mem_map.1 hx
  have := List.mem_range.1 hi
  obtain ⟨w1, w2⟩ := walk_at (x := ((i : Nat) : Int)) hd hg ho ⟨by omega, by omega⟩
  unfold endQ
  by_cases e : far 10 (edgesOf xs xs) (i : Nat) q0.1 = 1000000
  · simp [w1 e, e]
  · simp [(w2 e).1, e]

end Go.Proofs.YtaippfedjjjpeaaGreat
/-
Contracts: Walk, with its result in one.
-/
namespace Go.Proofs.YtaippfedjjjpeaaGreat
open Go Go.Abs Go.Proofs

def walkRes (ts : List (List TRoute)) (f a ttl : Int) : List Int × Int := if fineT ts f a ∧ (0 ≤ ttl ∧ ttl ≤ 16) then walk ts f a ttl else ([], 3)
theorem walkRes_len {ts : List (List TRoute)} (f a ttl : Int) : (walkRes ts f a ttl).1.length ≤ 1000 := by
  unfold walkRes
  split
  · rename_i h
    have := walk_len (ts := ts) (f := f) (a := a) h.2
    omega
  · simp
theorem C_i_Walk2 {ts : List (List TRoute)} {v : V} {f a ttl : Int} {H : Heap} {K : V → Heap → Prop} (hv : Tabs H v ts) (hl : ts.length + tot ts ≤ 1048576)
    (h : ∀ u H', Held H 1 ((walkRes ts f a ttl).1.map ri) u H' → K (.tup [u, .int .i64 (walkRes ts f a ttl).2]) H') : ACalls P n_i_Walk [v, .int .i64 f, .int .i64 a, .int .i64 ttl] H K := by
  refine C_i_Walk hv hl (fun hno => ?_) fun h1 h2 u H' hu => ?_
  · rw [walkRes, if_neg hno] at h
    exact h .nils H Held.nil
  · rw [walkRes, if_pos ⟨h1, h2⟩] at h
    exact h u H' hu

end Go.Proofs.YtaippfedjjjpeaaGreat
