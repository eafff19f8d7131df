/-
Contracts of the neighbor functions: each returns what its plain form says.
-/
import Derived.Test.YtlmgahcpdapbdaaEvents
set_option linter.all false
namespace Go.Proofs.Ytlmgahcpdapbdaa
open Go Go.Abs Go.Proofs

abbrev i64 (n : Int) : V := .int .i64 n
abbrev vNear (s l w : Int) : V := .agg [.int .i64 s, .int .i64 l, .int .i64 w]

def nearOk (s l w : Int) : Bool := decide (0 ≤ s ∧ s ≤ 4) && (decide (0 ≤ l ∧ l ≤ 1000000) && if s = 3 then decide (1 ≤ w ∧ w ≤ 10) else decide (w = 0))

theorem C_s_NearOk {s l w : Int} {H : Heap} {K : V → Heap → Prop} (h : K (.bool (nearOk s l w)) H) : ACalls P n_s_NearOk [vNear s l w] H K := by
  apply W_s_NearOk
  unfold F_s_NearOk
  simp
  repeat' first
    | exact Ret.eq h (by simp [nearOk]; grind)
    | (apply C_s_l01In; simp)
    | (refine And.intro ?_ ?_)
    | intro _

theorem C_i_NearOk {s l w : Int} {H : Heap} {K : V → Heap → Prop} (h : K (.bool (nearOk s l w)) H) : ACalls P n_i_NearOk [vNear s l w] H K := by
  apply W_i_NearOk
  unfold F_i_NearOk
  simp
  repeat' first
    | exact Ret.eq h (by simp [nearOk]; grind)
    | (apply C_i_within; simp)
    | (refine And.intro ?_ ?_)
    | intro _

def deadAt (s l w : Int) : Int := if nearOk s l w = false ∨ s = 0 then -1 else if 1000000 < IntKind.i64.wrap (l + 4) then -1 else IntKind.i64.wrap (l + 4)

theorem C_i_DeadAt {s l w : Int} {H : Heap} {K : V → Heap → Prop} (h : K (.int .i64 (deadAt s l w)) H) : ACalls P n_i_DeadAt [vNear s l w] H K := by
  apply W_i_DeadAt
  unfold F_i_DeadAt
  simp
  repeat' first
    | exact Ret.eq h (by simp [deadAt]; grind)
    | (apply C_i_NearOk; simp)
    | (refine And.intro ?_ ?_)
    | intro _

def nearNext (s l w k now n : Int) : Int × Int × Int :=
  if k = 0 then (1, now, 0)
  else if k = 1 then (if s < 2 then 2 else s, now, w)
  else if k = 2 then (if s = 2 then (if n = 0 then (4, l, w) else if 1 ≤ n ∧ n ≤ 10 then (3, l, n) else (s, l, w)) else (s, l, w))
  else if k = 3 then (if s = 3 then (if IntKind.i64.wrap (w - 1) = 0 then 4 else 3, l, IntKind.i64.wrap (w - 1)) else (s, l, w))
  else if k = 4 then (if s ≠ 0 ∧ 4 ≤ IntKind.i64.wrap (now - l) then (0, l, 0) else (s, l, w))
  else (0, l, 0)
def stepNear (s l w k now n : Int) : (Int × Int × Int) × Int :=
  if nearOk s l w = true ∧ (0 ≤ k ∧ k ≤ 5) ∧ (l ≤ now ∧ now ≤ 1000000) then (nearNext s l w k now n, if (nearNext s l w k now n).1 = s then 0 else 1) else ((s, l, w), 0)
abbrev vStep (r : (Int × Int × Int) × Int) : V := .tup [vNear r.1.1 r.1.2.1 r.1.2.2, .int .i64 r.2]

theorem C_i_Near_greeted {s l w now : Int} {b : Bool} {H : Heap} {K : V → Heap → Prop} (h : K (vNear (if b = true then (if s < 2 then 2 else s) else 1) now (if b = true then w else 0)) H) : ACalls P n_i_Near_greeted [vNear s l w, .int .i64 now, .bool b] H K := by
  apply W_i_Near_greeted
  unfold F_i_Near_greeted
  simp [stz_eq, putCells]
  repeat' first
    | exact Ret.eq h (by simp; grind)
    | (refine And.intro ?_ ?_)
    | intro _

theorem C_i_Near_described {s l w n : Int} {H : Heap} {K : V → Heap → Prop} (h : K (vNear (if s = 2 then (if n = 0 then 4 else if 1 ≤ n ∧ n ≤ 10 then 3 else s) else s) l (if s = 2 ∧ 1 ≤ n ∧ n ≤ 10 then n else w)) H) : ACalls P n_i_Near_described [vNear s l w, .int .i64 n] H K := by
  apply W_i_Near_described
  unfold F_i_Near_described
  simp [stz_eq, putCells]
  repeat' first
    | exact Ret.eq h (by simp; grind)
    | (apply C_i_within; simp)
    | (refine And.intro ?_ ?_)
    | intro _

theorem C_l_eqNear {s l w s' l' w' : Int} {H : Heap} {K : V → Heap → Prop} (h : K (.bool (decide (s = s' ∧ l = l' ∧ w = w'))) H) : ACalls P n_l_eqNear [vNear s l w, vNear s' l' w'] H K := by
  apply W_l_eqNear
  unfold F_l_eqNear
  simp
  repeat' first
    | exact Ret.eq h (by simp; grind)
    | (refine And.intro ?_ ?_)
    | intro _

set_option maxHeartbeats 2000000 in
theorem C_s_StepNear {s l w k now n : Int} {H : Heap} {K : V → Heap → Prop} (h : K (vStep (stepNear s l w k now n)) H) : ACalls P n_s_StepNear [vNear s l w, vNear k now n] H K := by
  apply W_s_StepNear
  unfold F_s_StepNear
  simp
  repeat' first
    | exact Ret.eq h (by simp [stepNear, nearNext]; grind [nearOk])
    | ((first | apply C_s_NearOk | apply C_s_l01In); (try simp [stz_eq, putCells]))
    | (refine And.intro ?_ ?_)
    | intro _

set_option maxHeartbeats 2000000 in
theorem C_i_StepNear {s l w k now n : Int} {H : Heap} {K : V → Heap → Prop} (h : K (vStep (stepNear s l w k now n)) H) : ACalls P n_i_StepNear [vNear s l w, vNear k now n] H K := by
  apply W_i_StepNear
  unfold F_i_StepNear
  simp
  apply C_i_NearOk
  simp [stz_eq, putCells]
  repeat' first
    | exact Ret.eq h (by simp [stepNear, nearNext]; grind [nearOk])
    | (apply C_i_within; simp [stz_eq, putCells])
    | ((first | apply C_i_Near_greeted | apply C_i_Near_described); simp [stz_eq, putCells])
    | (refine ⟨fun xs H' => xs = [.bool (decide (k = 0 ∨ k = 1))] ∧ H' = H, ⟨fun _ => Shr.of ⟨by simp; omega, rfl⟩, fun _ => Shr.of ⟨by simp; omega, rfl⟩⟩, ?_⟩; rintro _ _ ⟨rfl, rfl⟩; simp)
    | (refine And.intro ?_ ?_)
    | intro _

theorem near_of {x : List V} (c : CTs P 8 [.int .i64, .int .i64, .int .i64] x) : ∃ s l w, x = [.int .i64 s, .int .i64 l, .int .i64 w] := by
  obtain ⟨_, _, rfl, k0, c⟩ := CTs_cons c
  obtain ⟨_, _, rfl, k1, c⟩ := CTs_cons c
  obtain ⟨_, _, rfl, k2, c⟩ := CTs_cons c
  obtain rfl := CTs_nil c
  obtain ⟨s, rfl, _⟩ := CT_int k0
  obtain ⟨l, rfl, _⟩ := CT_int k1
  obtain ⟨w, rfl, _⟩ := CT_int k2
  exact ⟨s, l, w, rfl⟩

end Go.Proofs.Ytlmgahcpdapbdaa
