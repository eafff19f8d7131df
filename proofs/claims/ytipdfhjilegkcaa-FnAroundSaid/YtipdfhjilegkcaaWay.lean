/-
Contracts of WayCost; the law WalkCost.
-/
import Derived.Test.YtipdfhjilegkcaaGraphC
set_option linter.all false
namespace Go.Proofs.Ytipdfhjilegkcaa
open Go Go.Abs Go.Proofs

def wayR (n : Int) (es : List TEdge) (ws : List Int) : Nat → Option Int
  | 0 => some 0
  | i + 1 => match wayR n es ws i with
    | none => none
    | some s => if ¬ (0 ≤ ws.getD i 0 ∧ ws.getD i 0 < n) then none
      else if i = 0 then some s
      else if ws.getD i 0 = ws.getD (i - 1) 0 ∨ cost n es (ws.getD (i - 1) 0) (ws.getD i 0) = 1000000 then none
      else some (IntKind.i64.wrap (s + cost n es (ws.getD (i - 1) 0) (ws.getD i 0)))
def wayCost (n : Int) (es : List TEdge) (ws : List Int) : Int :=
  if ¬ graphOk n es ∨ ws.length = 0 ∨ 300 < ws.length then -1 else (wayR n es ws ws.length).getD (-1)
theorem wayR_step {n : Int} {es : List TEdge} {ws : List Int} {i : Nat} {s : Int} (h : wayR n es ws i = some s) : wayR n es ws (i + 1) =
    (if ¬ (0 ≤ ws.getD i 0 ∧ ws.getD i 0 < n) then none
      else if i = 0 then some s
      else if ws.getD i 0 = ws.getD (i - 1) 0 ∨ cost n es (ws.getD (i - 1) 0) (ws.getD i 0) = 1000000 then none
      else some (IntKind.i64.wrap (s + cost n es (ws.getD (i - 1) 0) (ws.getD i 0)))) := by
  rw [wayR, h]
theorem wayR_none {n : Int} {es : List TEdge} {ws : List Int} {i : Nat} (h : wayR n es ws i = none) : ∀ {j : Nat}, i ≤ j → wayR n es ws j = none
  | 0, hj => by have : i = 0 := by omega
                subst this; exact h
  | j + 1, hj => by
    by_cases e : i = j + 1
    · subst e; exact h
    · rw [wayR, wayR_none h (j := j) (by omega)]
theorem wayCost_bad {n : Int} {es : List TEdge} {ws : List Int} (h : ¬ graphOk n es ∨ ws.length = 0 ∨ 300 < ws.length) : wayCost n es ws = -1 := by unfold wayCost; rw [if_pos h]
theorem wayCost_none {n : Int} {es : List TEdge} {ws : List Int} {i : Nat} (hi : i ≤ ws.length) (h : wayR n es ws i = none) : wayCost n es ws = -1 := by
  unfold wayCost
  split
  · rfl
  · rw [wayR_none h hi]; rfl
theorem wayCost_some {n : Int} {es : List TEdge} {ws : List Int} {s : Int} (hg : graphOk n es) (h0 : ws.length ≠ 0) (h1 : ws.length ≤ 300) (h : wayR n es ws ws.length = some s) : wayCost n es ws = s := by
  unfold wayCost
  rw [if_neg (by intro hh; rcases hh with hh | hh | hh; exact hh hg; exact h0 hh; omega), h]; rfl

def InvW (n : Int) (es : List TEdge) (ws : List Int) (H : Heap) (m : Nat) (ys : List V) (Hc : Heap) : Prop :=
  ∃ i s, i ≤ ws.length ∧ ys = [.int .i64 s, .int .i64 (i : Nat)] ∧ m = ws.length - i ∧ Hc = H ∧ wayR n es ws i = some s

def InvW1 (n : Int) (es : List TEdge) (ws : List Int) (H : Heap) (m : Nat) (ys : List V) (Hc : Heap) : Prop :=
  ∃ i s, 1 ≤ i ∧ i ≤ ws.length ∧ ys = [.int .i64 s, .int .i64 (i : Nat)] ∧ m = ws.length - i ∧ Hc = H ∧ wayR n es ws i = some s ∧ (0 ≤ ws.getD (i - 1) 0 ∧ ws.getD (i - 1) 0 < n)

set_option maxHeartbeats 1000000 in
theorem C_i_WayCost {n : Int} {v w : V} {es : List TEdge} {ws : List Int} {H : Heap} {K : V → Heap → Prop} (hv : Rd H 3 v (es.map enEdge)) (hw : Rd H 1 w (ws.map ri)) (h : K (.int .i64 (wayCost n es ws)) H) : ACalls P n_i_WayCost [vG n v, w] H K := by
  have hc := hv.cell
  apply W_i_WayCost
  unfold F_i_WayCost
  simp [hc]
  refine ⟨_, Abs.sub_refl _, ?_⟩
  refine C_i_GraphOk hv ?_
  simp
  refine ⟨fun q => Ret.eq h (by rw [wayCost_bad (.inl q)]), fun hg => ?_⟩
  simp [hw.len]
  apply C_i_within
  simp
  refine ⟨fun q => Ret.eq h (by rw [wayCost_bad (.inr (by omega))]), fun q0 q1 => ?_⟩
  have hn := hg.1
  have h0 : 0 < ws.length := by omega
  refine hw.idx (by omega) (by simpa using h0) fun p hp => ?_
  simp only [hp.ld]
  simp [h0]
  have hg0 : ws.getD 0 0 = ws[0] := by simp [h0]
  have step0 := wayR_step (n := n) (es := es) (ws := ws) (i := 0) (s := 0) rfl
  rw [hg0] at step0
  refine C_i_Graph_isNode hv hn ?_
  simp
  refine ⟨fun q => Ret.eq h (by rw [wayCost_none (i := 0 + 1) (by omega) (by rw [step0, if_pos (by omega)])]), fun q2 q3 => ?_⟩
  rw [if_neg (by omega), if_pos rfl] at step0
  refine ⟨InvW1 n es ws H, ⟨ws.length - 1, Shr.of ⟨1, 0, by omega, by omega, by simp, by omega, rfl, step0, by simp only [Nat.sub_self, hg0]; omega⟩⟩, ?_⟩
  rintro m ys Hc ⟨i, s, h1, hi, rfl, rfl, rfl, hs, hnode⟩
  simp [hw.len]
  refine ⟨fun hlt => ⟨_, Abs.sub_refl _, ?_⟩, fun hge => ?_⟩
  · have hg1 : ws.getD i 0 = ws[i] := by simp [hlt]
    have step := wayR_step hs
    rw [hg1] at step
    rw [i64_in (n := (i : Int) + 1) (by omega) (by omega)]
    have hlt' : i - 1 < ws.length := by omega
    have e1 : ((i : Int) - 1).toNat = i - 1 := by omega
    have hg2 : ws.getD (i - 1) 0 = ws[i - 1] := by simp [hlt']
    rw [hg2] at hnode step
    rw [i64_in (n := (i : Int) - 1) (by omega) (by omega)]
    refine hw.idx (by omega) (by simp; omega) fun p' hp' => ?_
    simp only [hp'.ld, e1]
    simp [hlt']
    refine hw.idx (by omega) (by simpa using hlt) fun p hp => ?_
    simp only [hp.ld]
    simp [hlt]
    refine C_i_Graph_cost hv hg ?_
    simp
    refine ⟨_, Abs.sub_refl _, ?_⟩
    by_cases hin : 0 ≤ ws[i] ∧ ws[i] < n
    · rw [if_neg (by omega), if_neg (by omega)] at step
      refine ⟨fun q => Ret.eq h (by rw [wayCost_none (i := i + 1) (by omega) (by rw [step, if_pos (.inr q)])]), fun q5 => ?_⟩
      refine hw.idx (by omega) (by simpa using hlt) fun p hp => ?_
      simp only [hp.ld]
      simp [hlt]
      refine hw.idx (by omega) (by simp; omega) fun p' hp' => ?_
      simp only [hp'.ld, e1]
      simp [hlt']
      refine ⟨fun q => Ret.eq h (by rw [wayCost_none (i := i + 1) (by omega) (by rw [step, if_pos (.inl q)])]), fun q4 => ?_⟩
      rw [if_neg (by intro hh; rcases hh with hh | hh; exact q4 hh; exact q5 hh)] at step
      exact ⟨ws.length - (i + 1), by omega, Shr.of ⟨i + 1, _, by omega, by omega, rfl, rfl, rfl, step, by simp only [Nat.add_sub_cancel, hg1]; exact hin⟩⟩
    · rw [if_pos hin] at step
      rw [cost_out hg (.inr hin)]
      refine ⟨fun _ => Ret.eq h (by rw [wayCost_none (i := i + 1) (by omega) step]), fun q => absurd rfl q⟩
  · have : i = ws.length := by omega
    subst this
    exact Ret.eq h (by rw [wayCost_some hg (by omega) (by omega) hs])

end Go.Proofs.Ytipdfhjilegkcaa
