/-
Contracts: distances.
-/
import Derived.Test.YtohicpepcjgnaaaGraphC
set_option linter.all false
namespace Go.Proofs.Ytohicpepcjgnaaa
open Go Go.Abs Go.Proofs

theorem getD_ri {l : List Int} {i : Nat} (h : i < l.length) : (l.map ri).getD i [] = [.int .i64 (l.getD i 0)] := by simp [h]
theorem map_set_ri (l : List Int) (i : Nat) (x : Int) : (l.map ri).set i (ri x) = (l.set i x).map ri := by rw [List.map_set]

/-- A distance read off a row of them. -/
theorem dist_ld {n a b : Int} {es : List TEdge} {u : V} {H : Heap} {K : V → Prop} (hu : Rd H 1 u ((dist n es a).map ri)) (hg : graphOk n es) (hb : 0 ≤ b ∧ b < n) (h : K (.int .i64 (far n es a b))) :
    bnd (aIndex H 1 u (.int .i64 b)) fun t => bnd (aLd false 1 H t) K := by
  have hl : (dist n es a).length = n.toNat := (DOk.dist hg a).1
  refine hu.idx hb.1 (by simp; omega) fun p hp => ?_
  rw [hp.ld, getD_ri (by omega)]
  exact h

/-! #### the reference's -/
def InvRd (H : Heap) (n : Int) (m : Nat) (ys : List V) (Hc : Heap) : Prop :=
  ∃ (i : Nat) (u : V), (i : Int) ≤ n ∧ ys = [u, .int .i64 (i : Nat)] ∧ m = n.toNat - i ∧ Held H 1 ((List.replicate i (1000000 : Int)).map ri) u Hc
def InvKd (H : Heap) (n a : Int) (es : List TEdge) (v u : V) (m : Nat) (ys : List V) (Hc : Heap) : Prop :=
  ∃ k : Nat, (k : Int) ≤ n ∧ ys = [.box [.int .i64 n, v], .int .i64 (k : Nat)] ∧ m = n.toNat - k ∧ Held H 1 ((rounds es k (dist0 n a)).map ri) u Hc
def InvJd (H : Heap) (n a : Int) (es : List TEdge) (v u : V) (k : Nat) (m : Nat) (ys : List V) (Hc : Heap) : Prop :=
  ∃ j : Nat, j ≤ es.length ∧ ys = [.box [.int .i64 n, v], .int .i64 (j : Nat)] ∧ m = es.length - j ∧ Held H 1 ((part es j (rounds es k (dist0 n a))).map ri) u Hc

end Go.Proofs.Ytohicpepcjgnaaa
