/- The walk of the laws' helper words; word.Root at every text. -/
import Derived.Test.YtppbjomobbaeaaaWordWalk
import Derived.Test.YtppbjomobbaeaaaWordLaw
import Derived.Test.YtppbjomobbaeaaaEqual
import Derived.Test.YtppbjomobbaeaaaGood
namespace Go.Proofs.Ytppbjomobbaeaaa
open Go.RowKit
set_option linter.unusedVariables false

theorem words_known : nI (periodsOf (ByteArray.mk #[97, 98, 97, 97, 98, 97]).data.toList) = [3, 5, 6] ∧ bordersOf (ByteArray.mk #[97, 98, 97, 97, 98, 97]).data.toList = [0, 0, 1, 1, 2, 3] := by decide +kernel


set_option maxHeartbeats 400000 in
theorem root_no (s : ByteArray) (hs : 200 < s.size) (w : World) :
    Calls Try.prog 25 #[.string s] w fun e w' => e = .returned (.tuple #[.string ⟨#[]⟩, .int .i64 0, .int .i64 2]) ∧ w = w' := by
  go_enter Try.func25, Try.ntmps25
  go_wp2_with fail
  refine (periods_no s hs _).mono ?_
  rintro e w1 ⟨rfl, rfl⟩
  go_wp2
  go_ret3
  exact ⟨rfl, rfl⟩

end Go.Proofs.Ytppbjomobbaeaaa
