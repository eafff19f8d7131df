/-
Marking and reading back a result that is one's own.
-/
import Derived.Test.YtipdfhjilegkcaaInts
import Derived.Test.YtipdfhjilegkcaaAbs3
set_option linter.all false
namespace Go.Proofs.Ytipdfhjilegkcaa
open Go Go.Abs Go.Proofs

theorem C_markHeld {rows : List (List V)} {v : V} {k : Int} {H0 Ho H : Heap} {K : V → Heap → Prop} (hv : Held H0 1 rows v Ho) (hs : Abs.sub Ho H) (hr : ∀ r ∈ rows, r.length = 1) (hk : 0 ≤ k) (hkn : k + rows.length ≤ 1000000000000)
    (h : ∀ H' Ho', Held H0 1 (marks k rows.length) v Ho' → Abs.sub Ho' H' → K (.int .i64 (k + rows.length)) H') : ACalls P n_l_markIntS [v, .int .i64 k] H K := by
  rcases hv with ⟨rfl, rfl, rfl⟩ | ⟨o, cap, h1, rfl, hc, rfl⟩
  · exact C_l_markIntS_nil (by simpa using h H Ho (.inl ⟨rfl, rfl, rfl⟩) hs)
  · exact C_l_markIntS (rows := rows) (hs _ _ (upd_eq _ _ _)) hr rfl hk hkn (h _ (upd H0 o ⟨1, marks k rows.length⟩) (.inr ⟨o, cap, h1, by simp, by simpa using hc, rfl⟩) (by
      have := sub_upd2 (o := o) (x := ⟨1, marks k rows.length⟩) hs
      simpa using this))

end Go.Proofs.Ytipdfhjilegkcaa
