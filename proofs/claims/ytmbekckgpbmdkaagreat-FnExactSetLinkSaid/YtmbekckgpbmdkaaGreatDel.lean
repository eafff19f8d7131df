/-
Contracts: an element of one's own slice is taken out.
-/
import Derived.Test.YtmbekckgpbmdkaaGreatNetC
set_option linter.all false
namespace Go.Proofs.YtmbekckgpbmdkaaGreat
open Go Go.Abs Go.Proofs

theorem erase_rows {rows ex : List (List V)} {k : Nat} (hk : k < rows.length) : (rows ++ ex).take k ++ ((rows ++ ex).drop (k + 1)).take (rows.length - (k + 1)) = rows.eraseIdx k := by
  have h1 : (rows ++ ex).take k = rows.take k := List.take_append_of_le_length (by omega)
  have h2 : (rows ++ ex).drop (k + 1) = rows.drop (k + 1) ++ ex := List.drop_append_of_le_length (by omega)
  have h3 : (rows.drop (k + 1) ++ ex).take (rows.length - (k + 1)) = rows.drop (k + 1) := by
    rw [List.take_append_of_le_length (by simp), List.take_of_length_le (by simp)]
  rw [h1, h2, h3, List.eraseIdx_eq_take_drop_succ]
end Go.Proofs.YtmbekckgpbmdkaaGreat
