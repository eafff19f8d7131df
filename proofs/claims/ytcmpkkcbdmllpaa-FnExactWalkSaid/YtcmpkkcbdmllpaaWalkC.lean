/-
Contracts: Walk, with its result in one.
-/
import Derived.Test.YtcmpkkcbdmllpaaTabX
set_option linter.all false
namespace Go.Proofs.Ytcmpkkcbdmllpaa
open Go Go.Abs Go.Proofs

def walkRes (ts : List (List TRoute)) (f a ttl : Int) : List Int × Int := if fineT ts f a ∧ (0 ≤ ttl ∧ ttl ≤ 16) then walk ts f a ttl else ([], 3)
theorem walkRes_len {ts : List (List TRoute)} (f a ttl : Int) : (walkRes ts f a ttl).1.length ≤ 1000 := by
  unfold walkRes
  split
  · rename_i h
    have := walk_len (ts := ts) (f := f) (a := a) h.2
    omega
  · simp
theorem C_s_Walk2 {ts : List (List TRoute)} {v : V} {f a ttl : Int} {H : Heap} {K : V → Heap → Prop} (hv : Tabs H v ts) (hl : ts.length + tot ts ≤ 1048576)
    (h : ∀ u H', Held H 1 ((walkRes ts f a ttl).1.map ri) u H' → K (.tup [u, .int .i64 (walkRes ts f a ttl).2]) H') : ACalls P n_s_Walk [v, .int .i64 f, .int .i64 a, .int .i64 ttl] H K := by
  refine C_s_Walk hv hl (fun hno => ?_) fun h1 h2 u H' hu => ?_
  · rw [walkRes, if_neg hno] at h
    exact h .nils H Held.nil
  · rw [walkRes, if_pos ⟨h1, h2⟩] at h
    exact h u H' hu
theorem C_i_Walk2 {ts : List (List TRoute)} {v : V} {f a ttl : Int} {H : Heap} {K : V → Heap → Prop} (hv : Tabs H v ts) (hl : ts.length + tot ts ≤ 1048576)
    (h : ∀ u H', Held H 1 ((walkRes ts f a ttl).1.map ri) u H' → K (.tup [u, .int .i64 (walkRes ts f a ttl).2]) H') : ACalls P n_i_Walk [v, .int .i64 f, .int .i64 a, .int .i64 ttl] H K := by
  refine C_i_Walk hv hl (fun hno => ?_) fun h1 h2 u H' hu => ?_
  · rw [walkRes, if_neg hno] at h
    exact h .nils H Held.nil
  · rw [walkRes, if_pos ⟨h1, h2⟩] at h
    exact h u H' hu

end Go.Proofs.Ytcmpkkcbdmllpaa
