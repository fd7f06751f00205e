/- The walk of the laws' helper good: no error among those given. -/
import Derived.Test.YtkclcjgkicikfaaRows
import Derived.Test.YtkclcjgkicikfaaLib
import Derived.Test.YtkclcjgkicikfaaPlain
namespace Go.Proofs.Ytkclcjgkicikfaa
open Go.RowKit
set_option linter.unusedVariables false

end Go.Proofs.Ytkclcjgkicikfaa
