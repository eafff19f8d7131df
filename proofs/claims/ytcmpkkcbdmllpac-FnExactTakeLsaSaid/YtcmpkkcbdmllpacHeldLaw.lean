/-
Marking and reading back a result that is one's own.
-/
import Derived.Test.YtcmpkkcbdmllpacInts
import Derived.Test.YtcmpkkcbdmllpacAbs3
set_option linter.all false
namespace Go.Proofs.Ytcmpkkcbdmllpac
open Go Go.Abs Go.Proofs

end Go.Proofs.Ytcmpkkcbdmllpac
