/-
Contracts of the neighbor functions: each returns what its plain form says.
-/
import Derived.Test.YtgojmjelgngimaaW1
import Derived.Test.YtgojmjelgngimaaAbsQ
set_option linter.all false
namespace Go.Proofs.Ytgojmjelgngimaa
open Go Go.Abs Go.Proofs

abbrev i64 (n : Int) : V := .int .i64 n
abbrev vNear (s l w : Int) : V := .agg [.int .i64 s, .int .i64 l, .int .i64 w]

theorem C_s_l01In {n lo hi : Int} {H : Heap} {K : V → Heap → Prop} (h : K (.bool (decide (lo ≤ n ∧ n ≤ hi))) H) : ACalls P n_s_l01In [.int .i64 n, .int .i64 lo, .int .i64 hi] H K := by
  apply W_s_l01In
  unfold F_s_l01In
  simp
  refine ⟨fun h1 => Ret.eq h ?_, fun h1 => Ret.eq h ?_⟩ <;> simp <;> omega

theorem C_i_within {n lo hi : Int} {H : Heap} {K : V → Heap → Prop} (h : K (.bool (decide (lo ≤ n ∧ n ≤ hi))) H) : ACalls P n_i_within [.int .i64 n, .int .i64 lo, .int .i64 hi] H K := by
  apply W_i_within
  unfold F_i_within
  simp
  refine ⟨fun h1 => Ret.eq h ?_, fun h1 => Ret.eq h ?_⟩ <;> simp <;> omega

def nearOk (s l w : Int) : Bool := decide (0 ≤ s ∧ s ≤ 4) && (decide (0 ≤ l ∧ l ≤ 1000000) && if s = 3 then decide (1 ≤ w ∧ w ≤ 10) else decide (w = 0))

theorem C_s_NearOk {s l w : Int} {H : Heap} {K : V → Heap → Prop} (h : K (.bool (nearOk s l w)) H) : ACalls P n_s_NearOk [vNear s l w] H K := by
  apply W_s_NearOk
  unfold F_s_NearOk
  simp
  repeat' first
    | exact Ret.eq h (by simp [nearOk]; grind)
    | (apply C_s_l01In; simp)
    | (refine And.intro ?_ ?_)
    | intro _

theorem C_i_NearOk {s l w : Int} {H : Heap} {K : V → Heap → Prop} (h : K (.bool (nearOk s l w)) H) : ACalls P n_i_NearOk [vNear s l w] H K := by
  apply W_i_NearOk
  unfold F_i_NearOk
  simp
  repeat' first
    | exact Ret.eq h (by simp [nearOk]; grind)
    | (apply C_i_within; simp)
    | (refine And.intro ?_ ?_)
    | intro _

theorem C_l_toNear {s l w : Int} {H : Heap} {K : V → Heap → Prop} (h : K (vNear s l w) H) : ACalls P n_l_toNear [vNear s l w] H K := by
  apply W_l_toNear
  unfold F_l_toNear
  simp [stz_eq, putCells]
  exact Ret.eq h rfl

theorem C_l_FnExactNearOk {s l w : Int} {H : Heap} {K : V → Heap → Prop} (h : K (.bool true) H) : ACalls P n_l_FnExactNearOk [vNear s l w] H K := by
  apply W_l_FnExactNearOk
  unfold F_l_FnExactNearOk
  simp
  repeat' first
    | exact Ret.eq h (by grind)
    | (first | apply C_l_toNear | apply C_s_NearOk | apply C_i_NearOk) <;> (try simp)
    | (refine And.intro ?_ ?_)
    | intro _

def deadAt (s l w : Int) : Int := if nearOk s l w = false ∨ s = 0 then -1 else if 1000000 < IntKind.i64.wrap (l + 4) then -1 else IntKind.i64.wrap (l + 4)

theorem C_s_DeadAt {s l w : Int} {H : Heap} {K : V → Heap → Prop} (h : K (.int .i64 (deadAt s l w)) H) : ACalls P n_s_DeadAt [vNear s l w] H K := by
  apply W_s_DeadAt
  unfold F_s_DeadAt
  simp
  repeat' first
    | exact Ret.eq h (by simp [deadAt]; grind)
    | (apply C_s_NearOk; simp)
    | (refine And.intro ?_ ?_)
    | intro _

theorem C_i_DeadAt {s l w : Int} {H : Heap} {K : V → Heap → Prop} (h : K (.int .i64 (deadAt s l w)) H) : ACalls P n_i_DeadAt [vNear s l w] H K := by
  apply W_i_DeadAt
  unfold F_i_DeadAt
  simp
  repeat' first
    | exact Ret.eq h (by simp [deadAt]; grind)
    | (apply C_i_NearOk; simp)
    | (refine And.intro ?_ ?_)
    | intro _

theorem C_l_FnExactDeadAt {s l w : Int} {H : Heap} {K : V → Heap → Prop} (h : K (.bool true) H) : ACalls P n_l_FnExactDeadAt [vNear s l w] H K := by
  apply W_l_FnExactDeadAt
  unfold F_l_FnExactDeadAt
  simp
  repeat' first
    | exact Ret.eq h (by grind)
    | (first | apply C_l_toNear | apply C_s_DeadAt | apply C_i_DeadAt) <;> (try simp)
    | (refine And.intro ?_ ?_)
    | intro _

theorem near_of {x : List V} (c : CTs P 8 [.int .i64, .int .i64, .int .i64] x) : ∃ s l w, x = [.int .i64 s, .int .i64 l, .int .i64 w] := by
  obtain ⟨_, _, rfl, k0, c⟩ := CTs_cons c
  obtain ⟨_, _, rfl, k1, c⟩ := CTs_cons c
  obtain ⟨_, _, rfl, k2, c⟩ := CTs_cons c
  obtain rfl := CTs_nil c
  obtain ⟨s, rfl, _⟩ := CT_int k0
  obtain ⟨l, rfl, _⟩ := CT_int k1
  obtain ⟨w, rfl, _⟩ := CT_int k2
  exact ⟨s, l, w, rfl⟩

end Go.Proofs.Ytgojmjelgngimaa
