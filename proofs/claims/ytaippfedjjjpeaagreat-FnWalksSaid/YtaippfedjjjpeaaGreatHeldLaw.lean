/-
Marking and reading back a result that is one's own.
-/
import Derived.Test.YtaippfedjjjpeaaGreatInts
import Derived.Test.YtaippfedjjjpeaaGreatAbs3
set_option linter.all false
namespace Go.Proofs.YtaippfedjjjpeaaGreat
open Go Go.Abs Go.Proofs

end Go.Proofs.YtaippfedjjjpeaaGreat
