/- The walk of the laws' helper good: no error among those given. -/
import Derived.Test.YtmephgemokngnaaDoorRows
import Derived.Test.YtmephgemokngnaaDoorLib
import Derived.Test.YtmephgemokngnaaDoorPlain
namespace Go.Proofs.YtmephgemokngnaaDoor
open Go.RowKit
set_option linter.unusedVariables false

end Go.Proofs.YtmephgemokngnaaDoor
