/- The walks of word.Check and same.Check: texts of at most 200 bytes are let in. -/
import Derived.Test.YtigbnldmjafgmaaDoorRows
import Derived.Test.YtigbnldmjafgmaaDoorLib
namespace Go.Proofs.YtigbnldmjafgmaaDoor
open Go.RowKit
set_option linter.unusedVariables false

set_option maxHeartbeats 400000 in
theorem wordCheck_ok (s : ByteArray) (h : s.size ≤ 200) (w : World) :
    Calls Tryd.prog 72 #[.string s] w fun e w' => e = .returned (.int .i64 0) ∧ w = w' := by
  have hd : decide ((200 : Int) < (s.size : Int)) = false := by simp; omega
  go_enter Tryd.func72, Tryd.ntmps72
  go_wp2
  go_ret
  exact ⟨rfl, rfl⟩

set_option maxHeartbeats 400000 in
theorem wordCheck_no (s : ByteArray) (h : 200 < s.size) (w : World) :
    Calls Tryd.prog 72 #[.string s] w fun e w' => e = .returned (.int .i64 2) ∧ w = w' := by
  have hd : decide ((200 : Int) < (s.size : Int)) = true := by simp; omega
  go_enter Tryd.func72, Tryd.ntmps72
  go_wp2
  go_ret
  exact ⟨rfl, rfl⟩

set_option maxHeartbeats 400000 in
theorem sameCheck_ok (a b : ByteArray) (ha : a.size ≤ 200) (hb : b.size ≤ 200) (w : World) :
    Calls Tryd.prog 80 #[.string a, .string b] w fun e w' => e = .returned (.int .i64 0) ∧ w = w' := by
  go_enter Tryd.func80, Tryd.ntmps80
  go_wp2_with fail
  refine (wordCheck_ok a ha _).mono ?_
  rintro e w1 ⟨rfl, rfl⟩
  go_wp2_with fail
  refine (wordCheck_ok b hb _).mono ?_
  rintro e w1 ⟨rfl, rfl⟩
  go_wp2
  go_ret
  exact ⟨rfl, rfl⟩

set_option maxHeartbeats 400000 in
theorem sameCheck_no (a b : ByteArray) (h : 200 < a.size ∨ 200 < b.size) (w : World) :
    Calls Tryd.prog 80 #[.string a, .string b] w fun e w' => e = .returned (.int .i64 2) ∧ w = w' := by
  by_cases ha : a.size ≤ 200
  · go_enter Tryd.func80, Tryd.ntmps80
    go_wp2_with fail
    refine (wordCheck_ok a ha _).mono ?_
    rintro e w1 ⟨rfl, rfl⟩
    go_wp2_with fail
    refine (wordCheck_no b (by omega) _).mono ?_
    rintro e w1 ⟨rfl, rfl⟩
    go_wp2
    go_ret
    exact ⟨rfl, rfl⟩
  · go_enter Tryd.func80, Tryd.ntmps80
    go_wp2_with fail
    refine (wordCheck_no a (by omega) _).mono ?_
    rintro e w1 ⟨rfl, rfl⟩
    go_wp2
    go_ret
    exact ⟨rfl, rfl⟩

end Go.Proofs.YtigbnldmjafgmaaDoor
