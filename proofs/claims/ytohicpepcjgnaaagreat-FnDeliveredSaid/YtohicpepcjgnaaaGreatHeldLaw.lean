/-
Marking and reading back a result that is one's own.
-/
import Derived.Test.YtohicpepcjgnaaaGreatInts
import Derived.Test.YtohicpepcjgnaaaGreatAbs3
set_option linter.all false
namespace Go.Proofs.YtohicpepcjgnaaaGreat
open Go Go.Abs Go.Proofs

end Go.Proofs.YtohicpepcjgnaaaGreat
