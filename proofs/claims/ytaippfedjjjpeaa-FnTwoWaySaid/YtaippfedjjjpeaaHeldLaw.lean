/-
Marking and reading back a result that is one's own.
-/
import Derived.Test.YtaippfedjjjpeaaInts
import Derived.Test.YtaippfedjjjpeaaAbs3
set_option linter.all false
namespace Go.Proofs.Ytaippfedjjjpeaa
open Go Go.Abs Go.Proofs

end Go.Proofs.Ytaippfedjjjpeaa
