/- The walks of the laws' helpers cut (at most so many bytes) and back (from behind), and of slices.Reverse on bytes. -/
import Derived.Test.YtgoofbbbnphncaaDoorRows
import Derived.Test.YtgoofbbbnphncaaDoorLib
import Derived.Test.YtgoofbbbnphncaaDoorPlain
import Derived.RegionTactic
import Derived.ChangeAlike
import Derived.Lib.Strings
namespace Go.Proofs.YtgoofbbbnphncaaDoor
open Go.RowKit
set_option linter.unusedVariables false

theorem ba_ext {a b : ByteArray} (h : a.data.toList = b.data.toList) : a = b := by
  obtain ⟨⟨a⟩⟩ := a
  obtain ⟨⟨b⟩⟩ := b
  simp at h
  rw [h]
theorem ba_of (a : ByteArray) : ByteArray.mk a.data.toList.toArray = a := ba_ext (by simp)

set_option maxHeartbeats 400000 in
theorem cut_any (s : ByteArray) (n : Nat) (hn : n ≤ 4096) (hs : s.size ≤ 140737488351232) (w : World) :
    Calls Tryd.prog 50 #[.string s, .int .i64 n] w fun e w' => e = .returned (.string (s.extract 0 n)) ∧ w = w' := by
  obtain ⟨m, hm, hm1, hm2⟩ : ∃ m : Nat, (∀ (ats : Array TypeId) (t : TypeId) (w : World), (Builtin.min_ ats t #[.int .i64 (s.size : Int), .int .i64 (n : Int)]).run Tryd.prog w = .ok (.int .i64 (m : Int)) w) ∧ m ≤ s.size ∧ m = min n s.size :=
    ⟨min n s.size, fun ats t w => by rw [run_min_int2]; congr 2; omega, by omega, rfl⟩
  have hm3 : (m : Int) ≤ s.size := by omega
  have hx : s.extract 0 n = s.extract 0 m := ba_ext (by rw [Lib.extract_data, Lib.extract_data, hm2]; simp only [Nat.sub_zero, List.drop_zero]; rw [← List.take_take]; congr 1; exact (List.take_of_length_le (Nat.le_refl _)).symm)
  rw [hx]
  clear hx hm2
  go_enter Tryd.func50, Tryd.ntmps50
  go_wp2
  go_ret
  exact ⟨rfl, rfl⟩



end Go.Proofs.YtgoofbbbnphncaaDoor
