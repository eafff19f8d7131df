/-
Marking and reading back a result that is one's own.
-/
import Derived.Test.YtgiogphdnpeddaaInts
import Derived.Test.YtgiogphdnpeddaaAbsU
set_option linter.all false
namespace Go.Proofs.Ytgiogphdnpeddaa
open Go Go.Abs Go.Proofs

end Go.Proofs.Ytgiogphdnpeddaa
