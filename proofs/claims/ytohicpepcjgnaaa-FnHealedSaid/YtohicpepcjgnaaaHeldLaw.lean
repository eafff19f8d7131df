/-
Marking and reading back a result that is one's own.
-/
import Derived.Test.YtohicpepcjgnaaaInts
import Derived.Test.YtohicpepcjgnaaaAbs3
set_option linter.all false
namespace Go.Proofs.Ytohicpepcjgnaaa
open Go Go.Abs Go.Proofs

end Go.Proofs.Ytohicpepcjgnaaa
