/-
Marking and reading back a result that is one's own.
-/
import Derived.Test.YtgiogphdnpeddaaGreatInts
import Derived.Test.YtgiogphdnpeddaaGreatAbs3
set_option linter.all false
namespace Go.Proofs.YtgiogphdnpeddaaGreat
open Go Go.Abs Go.Proofs

end Go.Proofs.YtgiogphdnpeddaaGreat
