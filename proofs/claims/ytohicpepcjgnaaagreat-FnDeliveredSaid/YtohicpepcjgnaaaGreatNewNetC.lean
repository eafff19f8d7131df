/-
Contracts: a new net.
-/
import Derived.Test.YtohicpepcjgnaaaGreatNtM
import Derived.Test.YtohicpepcjgnaaaGreatBase
set_option linter.all false
namespace Go.Proofs.YtohicpepcjgnaaaGreat
open Go Go.Abs Go.Proofs

def newR (n : Int) : TNet × Bool := if 1 ≤ n ∧ n ≤ 6 then (⟨⟨n, []⟩, List.replicate n.toNat [], [], 0⟩, true) else (⟨⟨0, []⟩, [], [], 0⟩, false)
theorem newR_sz {n : Int} : bNet (newR n).1 := by
  unfold newR bNet szn
  split
  · rename_i h
    have hz : szd [] = 0 := rfl
    simp [sumF, hz]
    omega
  · simp [sumF]
theorem zero_net {c : Bool} {H : Heap} : Dp (netT c) H ⟨⟨0, []⟩, [], [], 0⟩ [.int .i64 0, .nils, .nils, .nils, .int .i64 0] H := Dp.net (a := ⟨⟨0, []⟩, [], [], 0⟩) Held.nil dpS_nil dpS_nil
theorem nils_own {b : Bool} : ∀ k : Nat, ∃ ess, OwnL (dbT b) (List.replicate k []) (List.replicate k [.nils]) ess ∧ ∀ H, Chain H ess H
  | 0 => ⟨[], .nil, fun H => rfl⟩
  | k + 1 => by
    obtain ⟨ess, h1, h2⟩ := nils_own (b := b) k
    refine ⟨(⟨5, [], .nils⟩ : Ent) :: ess, ?_, fun H => ⟨H, Held.nil, h2 H⟩⟩
    rw [List.replicate_succ, List.replicate_succ]
    exact OwnL.cons (es := [⟨5, [], .nils⟩]) ⟨.nils, [], [], rfl, by simp, .nil, rfl⟩ h1
theorem new_dp {c : Bool} {n : Nat} {H : Heap} {o : Nat} (ho : H o = none) : Dp (netT c) H ⟨⟨n, []⟩, List.replicate n [], [], 0⟩ [.int .i64 n, .nils, .slice o 0 n (some n), .nils, .int .i64 0] (upd H o ⟨1, List.replicate n [.nils]⟩) := by
  obtain ⟨ess, h1, h2⟩ := nils_own (b := c) n
  have hh := Held.full (sz := 1) (n := n) (rows := List.replicate n [V.nils]) ho (by simp)
  refine Dp.net (a := ⟨⟨n, []⟩, List.replicate n [], [], 0⟩) Held.nil ⟨_, ⟨_, _, ess, rfl, ?_, h1, rfl⟩, Chain.push (h2 H) hh⟩ dpS_nil
  intro r hr
  simp at hr
  rw [hr.2]; rfl
theorem C_s_NewNet {c : Bool} {n : Int} {H : Heap} {K : V → Heap → Prop} (h : ∀ us H', Dp (netT c) H (newR n).1 us H' → K (.tup [.agg us, .bool (newR n).2]) H') : ACalls P n_s_NewNet [.int .i64 n] H K := by
  apply W_s_NewNet
  unfold F_s_NewNet
  apply C_s_l01In
  simp [fillZ, stz_eq, putCells]
  unfold newR at h
  refine ⟨fun q => ?_, fun q1 q2 => ?_⟩
  · rw [if_neg (by omega)] at h
    exact Ret.of (h _ _ zero_net)
  · rw [if_pos ⟨q1, q2⟩] at h
    obtain ⟨k, rfl⟩ : ∃ k : Nat, n = k := ⟨n.toNat, by omega⟩
    simp [natOf, fillZ, stz_eq, putCells]
    refine ⟨by omega, fun o ho => ?_⟩
    exact Ret.of (h _ _ (new_dp ho))
end Go.Proofs.YtohicpepcjgnaaaGreat
