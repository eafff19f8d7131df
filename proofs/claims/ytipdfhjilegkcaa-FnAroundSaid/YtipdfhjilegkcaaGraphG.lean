/-
Contracts: the reference's hops; HopOf.
-/
import Derived.Test.YtipdfhjilegkcaaGraphH
set_option linter.all false
namespace Go.Proofs.Ytipdfhjilegkcaa
open Go Go.Abs Go.Proofs

/-- A distance as the reference looks it up. -/
theorem C_s_dist {n a b : Int} {v : V} {es : List TEdge} {H : Heap} {K : V → Heap → Prop} (hv : Rd H 3 v (es.map enEdge)) (hg : graphOk n es) (ha : 0 ≤ a ∧ a < n) (hb : 0 ≤ b ∧ b < n) (h : ∀ H', Abs.sub H H' → K (.int .i64 (far n es a b)) H') :
    ACalls P n_s_Distances [vG n v, .int .i64 a] H fun u H' => bnd (aIndex H' 1 u (.int .i64 b)) fun t => bnd (aLd false 1 H' t) fun x => K x H' := by
  refine C_s_Distances hv hg ha fun u H' hu => ?_
  exact dist_ld (hu.rd ri_len) hg hb (h _ hu.sub)

def hopsX (n : Int) (es : List TEdge) (a b : Int) (i : Nat) : List Int := ((List.range i).map (fun i : Nat => (i : Int))).filter (hopX n es a b)
theorem hopsX_len (n : Int) (es : List TEdge) (a b : Int) (i : Nat) : (hopsX n es a b i).length ≤ i := by
  unfold hopsX
  have := List.length_filter_le (hopX n es a b) ((List.range i).map (fun i : Nat => (i : Int)))
  simpa using this
theorem hopsX_succ {n : Int} {es : List TEdge} {a b : Int} {i : Nat} : hopsX n es a b (i + 1) = hopsX n es a b i ++ (if hopX n es a b (i : Int) = true then [(i : Int)] else []) := by
  unfold hopsX
  rw [List.range_succ, List.map_append, List.filter_append]
  congr 1
  simp only [List.map_cons, List.map_nil, List.filter_cons, List.filter_nil]

def InvX (H : Heap) (n : Int) (es : List TEdge) (a b : Int) (m : Nat) (ys : List V) (Hc : Heap) : Prop :=
  ∃ (i : Nat) (u : V) (Hb : Heap), (i : Int) ≤ n ∧ ys = [u, .int .i64 (i : Nat)] ∧ m = n.toNat - i ∧ Abs.sub H Hb ∧ Held Hb 1 ((hopsX n es a b i).map ri) u Hc

def hopOf (n : Int) (es : List TEdge) (a b : Int) : Int := if a = b then a else (hops n es a b).headD (-1)
theorem hopOf_same (n : Int) (es : List TEdge) (a : Int) : hopOf n es a a = a := by rw [hopOf, if_pos rfl]
theorem hopOf_none {n : Int} {es : List TEdge} {a b : Int} (h : a ≠ b) (h0 : (hops n es a b).length = 0) : hopOf n es a b = -1 := by
  rw [hopOf, if_neg h, List.eq_nil_of_length_eq_zero h0]; rfl
theorem hopOf_some {n : Int} {es : List TEdge} {a b : Int} (h : a ≠ b) (h0 : 0 < (hops n es a b).length) : (hops n es a b)[0] = hopOf n es a b := by
  rw [hopOf, if_neg h]
  match hops n es a b, h0 with
  | x :: xs, _ => rfl

end Go.Proofs.Ytipdfhjilegkcaa
