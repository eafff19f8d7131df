/-
Contracts: all messages are delivered.
-/
import Derived.Test.YtohicpepcjgnaaaGreatDelivD
set_option linter.all false
namespace Go.Proofs.YtohicpepcjgnaaaGreat
open Go Go.Abs Go.Proofs

def settleF : Nat → TNet → TNet × Nat
  | 0, a => (a, 0)
  | f + 1, a => if a.wires.length = 0 then (a, 0) else ((settleF f (deliverN a 0)).1, (settleF f (deliverN a 0)).2 + 1)
theorem settle_stop {f : Nat} {a : TNet} (h : a.wires.length = 0 ∨ f = 0) : settleF f a = (a, 0) := by
  cases f with
  | zero => rfl
  | succ f =>
    rcases h with h | h
    · unfold settleF; rw [if_pos h]
    · cases h
theorem settle_step {f : Nat} {a : TNet} (h : ¬ a.wires.length = 0) : settleF (f + 1) a = ((settleF f (deliverN a 0)).1, (settleF f (deliverN a 0)).2 + 1) := by
  rw [settleF, if_neg h]
def Went (N : Nat) (a : TNet) (i : Nat) (x : TNet) : Prop := i ≤ N ∧ settleF N a = ((settleF (N - i) x).1, (settleF (N - i) x).2 + i)
theorem Went.start (N : Nat) (a : TNet) : Went N a 0 a := ⟨by omega, by simp⟩
theorem Went.next {N i : Nat} {a x : TNet} (h : Went N a i x) (hx : ¬ x.wires.length = 0) (hi : i < N) : Went N a (i + 1) (deliverN x 0) := by
  refine ⟨by omega, ?_⟩
  rw [h.2]
  have : N - i = (N - (i + 1)) + 1 := by omega
  rw [this, settle_step hx]
  simp only [Prod.mk.injEq, true_and]
  omega
theorem Went.stop {N i : Nat} {a x : TNet} (h : Went N a i x) (hx : x.wires.length = 0 ∨ N ≤ i) : settleF N a = (x, i) := by
  rw [h.2, settle_stop (by omega)]
  simp
theorem settle_ok : ∀ {f : Nat} {a : TNet}, netOk a → netOk (settleF f a).1
  | 0, _, h => h
  | f + 1, a, h => by
    by_cases hx : a.wires.length = 0
    · rw [settle_stop (.inl hx)]; exact h
    · rw [settle_step hx]; exact settle_ok (netOk_deliver h)
def settleN (N : Nat) (a : TNet) : TNet × Int := if netOk a then ((settleF N a).1, ((settleF N a).2 : Nat)) else (a, -1)
theorem settleN_sz {N : Nat} {a : TNet} (h : bNet a) : bNet (settleN N a).1 := by
  unfold settleN
  split
  · rename_i hh
    exact small_sz (small_of (settle_ok hh))
  · exact h
theorem deliver_zero {a : TNet} (h : netOk a) (hx : ¬ a.wires.length = 0) : deliverR a 0 = (deliverN a 0, true) := by
  unfold deliverR
  rw [if_pos ⟨h, by omega, by omega⟩]
  rfl
def InvSs (c : Bool) (H : Heap) (N : Nat) (a : TNet) (m : Nat) (ys : List V) (Hc : Heap) : Prop :=
  ∃ (i : Nat) (x : TNet) (e d w : V), ys = [.box [.int .i64 0, .nils, .nils, .nils, .int .i64 0], .box (netRow x e d w), .int .i64 (i : Nat)] ∧ m = N - i ∧ netOk x ∧ Went N a i x ∧ Dp (netT c) H x (netRow x e d w) Hc
def InvSi (H : Heap) (o N : Nat) (a : TNet) (m : Nat) (ys : List V) (Hc : Heap) : Prop :=
  ∃ (i : Nat) (x : TNet) (e d w : V) (Y Hn : Heap), ys = [.int .i64 (i : Nat)] ∧ m = N - i ∧ netOk x ∧ Went N a i x ∧ Abs.sub H Y ∧ NB false Y o x e d w Hn ∧ Abs.sub Hn Hc
def settleR (a : TNet) : TNet × Int := settleN 5000 a
theorem settleR_sz {a : TNet} (h : bNet a) : bNet (settleR a).1 := settleN_sz h
end Go.Proofs.YtohicpepcjgnaaaGreat
