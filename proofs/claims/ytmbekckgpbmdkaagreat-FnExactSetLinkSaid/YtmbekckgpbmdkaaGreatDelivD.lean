/-
Contracts: a delivery, of both sides.
-/
import Derived.Test.YtmbekckgpbmdkaaGreatDelivC
set_option linter.all false
namespace Go.Proofs.YtmbekckgpbmdkaaGreat
open Go Go.Abs Go.Proofs

/-- The box is read and left. -/
theorem net_end {c t : Bool} {Y H H' Hn : Heap} {o : Nat} {a : TNet} {e d w : V} {K : V → Heap → Prop} (hy : Abs.sub H Y) (hn : NB c Y o a e d w Hn) (hs : Abs.sub Hn H') (h : ∀ us H', Dp (netT c) H a us H' → K (.tup [.agg us, .bool t]) H') :
    bnd (aLd true 5 H' (.ptr o 0 0)) fun t58 =>
      bnd (stz 5 [(.int .i64 0), .nils, .nils, .nils, (.int .i64 0)] 0 t58) fun c59 =>
      bnd (if 5 ≤ c59.length then some (V.agg (List.take 5 c59)) else none) fun t60 =>
      Ret K (.tup [t60, (.bool t)]) H' := by
  have hb := hs _ _ hn.box
  have hc := hn.cell
  simp [aLd_at hb, hc, stz_eq, putCells]
  obtain ⟨Hz, z1, z2⟩ := hn.leave
  obtain ⟨Hy, y1, y2⟩ := z1.shrink hy
  exact Ret.shr (h _ _ y1) rfl (sub_trans y2 (sub_trans z2 hs))
theorem row_sta {H : Heap} {o r : Nat} {rows : List (List V)} {v v' : V} (ho : H o = some ⟨1, rows.set r [v]⟩) (hr : r < rows.length) (cv : cellsOf v' = [v'] ∧ cellOk v' = true ∧ notAny v' = true) : aSt 1 H (.ptr o r 0) (.agg [v']) = some (upd H o ⟨1, rows.set r [v']⟩) := by
  rw [aSt_own ho (row := [v]) (row' := [v']) (by simp [hr]) (by simp [stz_eq, putCells, cv])]
  simp
theorem db_small {xs : List TLsa} (h : dbOk xs) : xs.length + sumF szl xs ≤ 1048576 := by
  have h1 := db_len h
  have h2 := sumF_bound (f := szl) (xs := xs) (c := 16) fun l hl => by
    obtain ⟨j, hj, rfl⟩ := List.mem_iff_getElem.1 hl
    exact lsa_small (h.1 j hj)
  omega
theorem findR_small (xs : List TLsa) (o : Int) : szl (findR xs o).1 ≤ 16 := by
  unfold findR
  split
  · rename_i hd
    split
    · rename_i a ha
      obtain ⟨j, hj, rfl⟩ := List.mem_iff_getElem.1 (List.mem_of_find?_eq_some ha)
      exact lsa_small (hd.1 j hj)
    · simp [zeroL, szl]
  · simp [zeroL, szl]
end Go.Proofs.YtmbekckgpbmdkaaGreat
