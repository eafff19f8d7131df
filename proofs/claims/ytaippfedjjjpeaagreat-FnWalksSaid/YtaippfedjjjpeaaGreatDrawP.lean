/-
Contracts: the draw of a database and a node; the cost of an edge, checked.
-/
import Derived.Test.YtaippfedjjjpeaaGreatDrawDb
set_option linter.all false
namespace Go.Proofs.YtaippfedjjjpeaaGreat
open Go Go.Abs Go.Proofs

theorem upd_del_sub {H : Heap} {o o' : Nat} {x : Ob} (h : o ≠ o') : Abs.sub (upd (Abs.del H o) o' x) (Abs.del (upd H o' x) o) := fun i y hi => by
  unfold Abs.del upd at *
  simp only at hi ⊢
  by_cases e : i = o'
  · subst e
    rw [if_pos rfl] at hi
    rw [if_neg (fun q => h q.symm), if_pos rfl]
    exact hi
  · rw [if_neg e] at hi
    split at hi
    · simp at hi
    · rename_i q
      rw [if_neg q, if_neg e]
      exact hi
set_option maxHeartbeats 1000000 in
theorem C_w_DrawPrefixesOf {v : V} {bs : List (List V)} {H : Heap} {K : V → Heap → Prop} (hv : Rd H 1 v bs) (hb : Bs bs) (hl : bs.length ≤ 9223372036854775807) (hcell : cellsOf v = [v] ∧ cellOk v = true ∧ notAny v = true)
    (h : ∀ xs u (f : Int) H', Abs.sub H H' → fits 10 xs → (dbT false).rd H' xs [u] → K (.tup [.agg [u], .int .i64 f]) H') : ACalls P n_s_DrawPrefixesOf [v] H K := by
  apply W_s_DrawPrefixesOf
  unfold F_s_DrawPrefixesOf
  refine C_w_l06Draw hv hb hl hcell fun o xs u H1 ⟨hc, hs, hf, hq, cu⟩ => ?_
  simp [stz_eq, putCells, cu]
  refine ⟨noHeap, noHeap_sub _, ?_⟩
  refine C_s_l01Below hc fun x H2 _ _ _ s2 => ⟨noHeap_sub _, ?_⟩
  refine C_s_l01Below s2.1 fun y H3 _ _ _ s3 => ⟨noHeap_sub _, ?_⟩
  have hb6 : bsl 1 6 [(.int .i64 0)] [(0, (.int .i64 0)), (1, (.int .i64 x)), (2, (.int .i64 y)), (3, (.int .i64 9)), (4, (.int .i64 10)), (5, (.int .i64 (-1)))] = some (([0, x, y, 9, 10, -1] : List Int).map ri) := rfl
  simp only [hb6, bnd_some]
  intro o13 ho13
  refine ⟨noHeap_sub _, ?_⟩
  have hne : o ≠ o13 := fun e => by
    have := s3.1.some
    rw [e] at this
    exact this ho13
  have ho' : Abs.del H3 o o13 = none := by unfold Abs.del; rw [if_neg (fun q => hne q.symm)]; exact ho13
  have s4 := s3.trans (St.grow s3.1 (sub_fresh (x := ⟨1, ([0, x, y, 9, 10, -1] : List Int).map ri⟩) ho13))
  have rl := ((Held.full (sz := 1) (n := 6) (rows := ([0, x, y, 9, 10, -1] : List Int).map ri) ho' (by rfl)).rd ri_len).mono (upd_del_sub hne)
  refine C_s_l01PickInt s4.1 rl (by simp) (by simp) fun f H5 _ s5 => ⟨noHeap_sub _, ?_⟩
  have s6 := (s2.trans s4).trans s5
  exact Ret.of (h xs u f _ (sub_trans hs (St.low s6)) hf (hq.st s6).rd)
end Go.Proofs.YtaippfedjjjpeaaGreat
