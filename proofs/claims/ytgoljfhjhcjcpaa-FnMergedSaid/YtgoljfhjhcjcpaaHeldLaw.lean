/-
Marking and reading back a result that is one's own.
-/
import Derived.Test.YtgoljfhjhcjcpaaInts
import Derived.Test.YtgoljfhjhcjcpaaAbs3
set_option linter.all false
namespace Go.Proofs.Ytgoljfhjhcjcpaa
open Go Go.Abs Go.Proofs

end Go.Proofs.Ytgoljfhjhcjcpaa
