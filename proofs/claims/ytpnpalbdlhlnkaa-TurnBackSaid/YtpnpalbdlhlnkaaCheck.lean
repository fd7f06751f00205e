/- The walks of word.Check and same.Check: texts of at most 200 bytes are let in. -/
import Derived.Test.YtpnpalbdlhlnkaaRows
import Derived.Test.YtpnpalbdlhlnkaaLib
namespace Go.Proofs.Ytpnpalbdlhlnkaa
open Go.RowKit
set_option linter.unusedVariables false

set_option maxHeartbeats 400000 in
theorem wordCheck_ok (s : ByteArray) (h : s.size ≤ 200) (w : World) :
    Calls Try.prog 9 #[.string s] w fun e w' => e = .returned (.int .i64 0) ∧ w = w' := by
  have hd : decide ((200 : Int) < (s.size : Int)) = false := by simp; omega
  go_enter Try.func9, Try.ntmps9
  go_wp2
  go_ret
  exact ⟨rfl, rfl⟩

set_option maxHeartbeats 400000 in
theorem wordCheck_no (s : ByteArray) (h : 200 < s.size) (w : World) :
    Calls Try.prog 9 #[.string s] w fun e w' => e = .returned (.int .i64 2) ∧ w = w' := by
  have hd : decide ((200 : Int) < (s.size : Int)) = true := by simp; omega
  go_enter Try.func9, Try.ntmps9
  go_wp2
  go_ret
  exact ⟨rfl, rfl⟩



end Go.Proofs.Ytpnpalbdlhlnkaa
