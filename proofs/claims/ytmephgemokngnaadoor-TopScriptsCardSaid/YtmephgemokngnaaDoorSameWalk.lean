/- The walks of same.Long, same.Within and same.Places. -/
import Derived.Test.YtmephgemokngnaaDoorSameTable
import Derived.Test.YtmephgemokngnaaDoorStruct
import Derived.Test.YtmephgemokngnaaDoorApart
import Derived.Deep.DeepMust
namespace Go.Proofs.YtmephgemokngnaaDoor
open Go.RowKit
set_option linter.unusedVariables false

set_option maxHeartbeats 1000000 in
theorem long_ok (a b : ByteArray) (ha : a.size ≤ 200) (hb : b.size ≤ 200) (w : World) :
    Calls Tryd.prog 19 #[.string a, .string b] w fun e w' => e = .returned (.tuple #[.int .i64 (lcs a.data.toList b.data.toList : Nat), .int .i64 0]) ∧ Below w.heap.size w w' := by
  go_enter Tryd.func19, Tryd.ntmps19
  go_wp2_with fail
  refine (sameCheck_ok a b ha hb _).mono ?_
  rintro e w1 ⟨rfl, rfl⟩
  go_wp2_with fail
  refine (table_ok a b ha hb _).mono ?_
  rintro e w1 ⟨rfl, hg, hb1⟩
  have r0 := hg.row 0 (Nat.zero_le _)
  have c0 := hg.cell 0 0 (Nat.zero_le _) (Nat.zero_le _)
  have e0 : pl a.data.toList b.data.toList 0 0 = lcs a.data.toList b.data.toList := rfl
  rw [e0] at c0
  clear hg e0
  go_wp2
  go_ret2
  exact ⟨rfl, hb1⟩

set_option maxHeartbeats 400000 in
theorem long_no (a b : ByteArray) (h : 200 < a.size ∨ 200 < b.size) (w : World) :
    Calls Tryd.prog 19 #[.string a, .string b] w fun e w' => e = .returned (.tuple #[.int .i64 0, .int .i64 2]) ∧ w = w' := by
  go_enter Tryd.func19, Tryd.ntmps19
  go_wp2_with fail
  refine (sameCheck_no a b h _).mono ?_
  rintro e w1 ⟨rfl, rfl⟩
  go_wp2
  go_ret2
  exact ⟨rfl, rfl⟩



end Go.Proofs.YtmephgemokngnaaDoor
