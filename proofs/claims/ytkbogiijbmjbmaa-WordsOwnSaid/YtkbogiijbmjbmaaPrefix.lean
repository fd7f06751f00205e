/- The walk of strings.HasPrefix. -/
import Derived.Test.YtkbogiijbmjbmaaRows
import Derived.Test.YtkbogiijbmjbmaaLib
import Derived.Test.YtkbogiijbmjbmaaBack
namespace Go.Proofs.Ytkbogiijbmjbmaa
open Go.RowKit
set_option linter.unusedVariables false

/-- Does the text begin so? -/
def preB (s p : ByteArray) : Bool := p.data.toList.isPrefixOf s.data.toList
theorem preB_iff (s p : ByteArray) : preB s p = true ↔ p.data.toList <+: s.data.toList := List.isPrefixOf_iff_prefix


end Go.Proofs.Ytkbogiijbmjbmaa
