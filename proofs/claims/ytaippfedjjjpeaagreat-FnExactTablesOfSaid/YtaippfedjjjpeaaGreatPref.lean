/-
Contracts: prefixes, tables, the best route.
-/
import Derived.Test.YtaippfedjjjpeaaGreatLsas
set_option linter.all false
namespace Go.Proofs.YtaippfedjjjpeaaGreat
open Go Go.Abs Go.Proofs

def psz (len : Int) : Int := 2 ^ (16 - len).toNat
theorem psz_in {len : Int} (h : 0 ≤ len ∧ len ≤ 16) : 1 ≤ psz len ∧ psz len ≤ 65536 := by
  have : len = 0 ∨ len = 1 ∨ len = 2 ∨ len = 3 ∨ len = 4 ∨ len = 5 ∨ len = 6 ∨ len = 7 ∨ len = 8 ∨ len = 9 ∨ len = 10 ∨ len = 11 ∨ len = 12 ∨ len = 13 ∨ len = 14 ∨ len = 15 ∨ len = 16 := by omega
  rcases this with rfl | rfl | rfl | rfl | rfl | rfl | rfl | rfl | rfl | rfl | rfl | rfl | rfl | rfl | rfl | rfl | rfl <;> decide
theorem C_i_Prefix_size {net len : Int} {H : Heap} {K : V → Heap → Prop} (hl : 0 ≤ len ∧ len ≤ 16) (h : K (.int .i64 (psz len)) H) : ACalls P n_i_Prefix_size [.agg [.int .i64 net, .int .i64 len]] H K := by
  apply W_i_Prefix_size
  unfold F_i_Prefix_size
  simp
  have : len = 0 ∨ len = 1 ∨ len = 2 ∨ len = 3 ∨ len = 4 ∨ len = 5 ∨ len = 6 ∨ len = 7 ∨ len = 8 ∨ len = 9 ∨ len = 10 ∨ len = 11 ∨ len = 12 ∨ len = 13 ∨ len = 14 ∨ len = 15 ∨ len = 16 := by omega
  rcases this with rfl | rfl | rfl | rfl | rfl | rfl | rfl | rfl | rfl | rfl | rfl | rfl | rfl | rfl | rfl | rfl | rfl <;> exact Ret.eq h rfl
theorem C_s_l01Size2 {len : Int} {H : Heap} {K : V → Heap → Prop} (hl : 0 ≤ len ∧ len ≤ 16) (h : K (.int .i64 (psz len)) H) : ACalls P n_s_l01Size2 [.int .i64 len] H K := by
  apply W_s_l01Size2
  unfold F_s_l01Size2
  simp
  have : len = 0 ∨ len = 1 ∨ len = 2 ∨ len = 3 ∨ len = 4 ∨ len = 5 ∨ len = 6 ∨ len = 7 ∨ len = 8 ∨ len = 9 ∨ len = 10 ∨ len = 11 ∨ len = 12 ∨ len = 13 ∨ len = 14 ∨ len = 15 ∨ len = 16 := by omega
  rcases this with rfl | rfl | rfl | rfl | rfl | rfl | rfl | rfl | rfl | rfl | rfl | rfl | rfl | rfl | rfl | rfl | rfl <;> exact Ret.eq h rfl

def addrOk (a : Int) : Prop := 0 ≤ a ∧ a ≤ 65535
instance (a : Int) : Decidable (addrOk a) := by unfold addrOk; infer_instance
def prefOk (net len : Int) : Prop := (0 ≤ len ∧ len ≤ 16) ∧ addrOk net ∧ net.tmod (psz len) = 0
instance (net len : Int) : Decidable (prefOk net len) := by unfold prefOk; infer_instance
theorem C_s_l01Addr {a : Int} {H : Heap} {K : V → Heap → Prop} (h : K (.bool (decide (addrOk a))) H) : ACalls P n_s_l01Addr [.int .i64 a] H K := by
  apply W_s_l01Addr
  unfold F_s_l01Addr
  apply C_s_l01In
  exact Ret.of h
theorem C_i_isAddr {a : Int} {H : Heap} {K : V → Heap → Prop} (h : K (.bool (decide (addrOk a))) H) : ACalls P n_i_isAddr [.int .i64 a] H K := by
  apply W_i_isAddr
  unfold F_i_isAddr
  apply C_i_within
  exact Ret.of h
theorem C_s_PrefixOk {net len : Int} {H : Heap} {K : V → Heap → Prop} (h : K (.bool (decide (prefOk net len))) H) : ACalls P n_s_PrefixOk [.agg [.int .i64 net, .int .i64 len]] H K := by
  apply W_s_PrefixOk
  unfold F_s_PrefixOk
  simp
  refine ⟨_, Abs.sub_refl _, ?_⟩
  apply C_s_l01In
  simp
  refine ⟨fun q1 q2 => ?_, fun q => Ret.no h fun hh => by have := hh.1; omega⟩
  apply C_s_l01Addr
  simp
  refine ⟨fun q3 => ?_, fun q => Ret.no h fun hh => q hh.2.1⟩
  refine C_s_l01Size2 ⟨q1, q2⟩ ?_
  have := psz_in ⟨q1, q2⟩
  simp
  rw [if_neg (by omega)]
  simp
  exact Ret.iff h ⟨fun hh => ⟨⟨q1, q2⟩, q3, hh⟩, fun hh => hh.2.2⟩
theorem C_i_PrefixOk {net len : Int} {H : Heap} {K : V → Heap → Prop} (h : K (.bool (decide (prefOk net len))) H) : ACalls P n_i_PrefixOk [.agg [.int .i64 net, .int .i64 len]] H K := by
  apply W_i_PrefixOk
  unfold F_i_PrefixOk
  simp
  refine ⟨_, Abs.sub_refl _, ?_⟩
  apply C_i_within
  simp
  refine ⟨fun q1 q2 => ?_, fun q => Ret.no h fun hh => by have := hh.1; omega⟩
  apply C_i_isAddr
  simp
  refine ⟨fun q3 => ?_, fun q => Ret.no h fun hh => q hh.2.1⟩
  refine C_i_Prefix_size ⟨q1, q2⟩ ?_
  have := psz_in ⟨q1, q2⟩
  simp
  rw [if_neg (by omega)]
  simp
  exact Ret.iff h ⟨fun hh => ⟨⟨q1, q2⟩, q3, hh⟩, fun hh => hh.2.2⟩
/-! #### tables -/
abbrev rt (t : List TStub) (i : Nat) : TStub := t.getD i (0, 0, 0)
def ahead (a b : TStub) : Prop := a.1 < b.1 ∨ a.1 = b.1 ∧ a.2.1 < b.2.1
instance (a b : TStub) : Decidable (ahead a b) := by unfold ahead; infer_instance
theorem C_s_l02Ahead {a b : TStub} {H : Heap} {K : V → Heap → Prop} (h : K (.bool (decide (ahead a b))) H) : ACalls P n_s_l02Ahead [.agg [.int .i64 a.1, .int .i64 a.2.1], .agg [.int .i64 b.1, .int .i64 b.2.1]] H K := by
  apply W_s_l02Ahead
  unfold F_s_l02Ahead
  simp
  refine ⟨fun q => Ret.yes h (.inl q), fun q => ⟨fun q2 => Ret.iff h ⟨fun hh => .inr ⟨q2, hh⟩, fun hh => by unfold ahead at hh; omega⟩, fun q2 => Ret.no h fun hh => by unfold ahead at hh; omega⟩⟩
theorem C_i_comparePrefixes {a b : TStub} {H : Heap} {K : V → Heap → Prop} (h : K (.int .i64 (if a.1 ≠ b.1 then IntKind.i64.wrap (a.1 - b.1) else IntKind.i64.wrap (a.2.1 - b.2.1))) H) : ACalls P n_i_comparePrefixes [.agg [.int .i64 a.1, .int .i64 a.2.1], .agg [.int .i64 b.1, .int .i64 b.2.1]] H K := by
  apply W_i_comparePrefixes
  unfold F_i_comparePrefixes
  simp
  refine ⟨fun h1 => Ret.eq h (by simp [h1]), fun h1 => Ret.eq h (by simp [h1])⟩

end Go.Proofs.YtaippfedjjjpeaaGreat
