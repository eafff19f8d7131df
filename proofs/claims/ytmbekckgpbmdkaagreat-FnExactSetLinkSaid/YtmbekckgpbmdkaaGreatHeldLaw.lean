/-
Marking and reading back a result that is one's own.
-/
import Derived.Test.YtmbekckgpbmdkaaGreatInts
import Derived.Test.YtmbekckgpbmdkaaGreatAbs3
set_option linter.all false
namespace Go.Proofs.YtmbekckgpbmdkaaGreat
open Go Go.Abs Go.Proofs

end Go.Proofs.YtmbekckgpbmdkaaGreat
