/- The walk of strings.HasPrefix. -/
import Derived.Test.YtafpcekemlgclaaGreatDoorRows
import Derived.Test.YtafpcekemlgclaaGreatDoorLib
import Derived.Test.YtafpcekemlgclaaGreatDoorBack
namespace Go.Proofs.YtafpcekemlgclaaGreatDoor
open Go.RowKit
set_option linter.unusedVariables false

/-- Does the text begin so? -/
def preB (s p : ByteArray) : Bool := p.data.toList.isPrefixOf s.data.toList
theorem preB_iff (s p : ByteArray) : preB s p = true ↔ p.data.toList <+: s.data.toList := List.isPrefixOf_iff_prefix

set_option maxHeartbeats 400000 in
theorem hasPrefix_any (s p : ByteArray) (hs : s.size ≤ 140737488355328) (hp : p.size ≤ 140737488355328) (w : World) :
    Calls Tryz.prog 17 #[.string s, .string p] w fun e w' => e = .returned (.bool (preB s p)) ∧ w = w' := by
  have key : ∀ w, Calls Tryz.prog 25 #[.string s, .string p] w fun e w' => e = .returned (.bool (preB s p)) ∧ w = w' := fun w => by
    have h1 : preB s p = true ↔ p.size ≤ s.size ∧ s.extract 0 p.size = p := by
      rw [preB_iff]
      constructor
      · intro h
        refine ⟨h.length_le, ba_ext ?_⟩
        rw [Lib.extract_data, Nat.sub_zero, List.drop_zero]
        exact (List.prefix_iff_eq_take.1 h).symm
      · rintro ⟨h1, h2⟩
        have this : (s.extract 0 p.size).data.toList = p.data.toList := by rw [h2]
        rw [Lib.extract_data, Nat.sub_zero, List.drop_zero] at this
        rw [← this]
        exact List.take_prefix _ _
    have H1 := Lib.hid h1
    clear h1
    by_cases hle : p.size ≤ s.size
    · by_cases heq : s.extract 0 p.size = p
      · have hv : Hid (preB s p = true) := H1.out.2 ⟨hle, heq⟩
        have q1 : decide (p.size ≤ s.size) = true := decide_eq_true hle
        have q2 : ((s.extract 0 p.size).toList == p.toList) = true := by rw [heq]; simp
        have Heq := Lib.hid heq
        clear heq
        go_enter Tryz.func25, Tryz.ntmps25
        go_wp2
        go_ret
        exact ⟨by rw [hv.out]; rfl, rfl⟩
      · have hv : Hid (preB s p = false) := Bool.eq_false_iff.2 (mt H1.out.1 fun h => heq h.2)
        have q1 : decide (p.size ≤ s.size) = true := decide_eq_true hle
        have q2 : ((s.extract 0 p.size).toList == p.toList) = false := by
          rw [beq_eq_false_iff_ne]; intro h; rw [ByteArray.toList_eq, ByteArray.toList_eq] at h; exact heq (ba_ext h)
        have Heq := Lib.hid heq
        clear heq
        go_enter Tryz.func25, Tryz.ntmps25
        go_wp2
        go_ret
        exact ⟨by rw [hv.out]; rfl, rfl⟩
    · have hv : Hid (preB s p = false) := Bool.eq_false_iff.2 (mt H1.out.1 fun h => hle h.1)
      have q1 : decide (p.size ≤ s.size) = false := decide_eq_false hle
      go_enter Tryz.func25, Tryz.ntmps25
      go_wp2
      go_ret
      exact ⟨by rw [hv.out]; rfl, rfl⟩
  have Key := Lib.hid key
  clear key
  go_enter Tryz.func17, Tryz.ntmps17
  go_wp2_with fail
  refine (Key.out _).mono ?_
  rintro e w1 ⟨rfl, rfl⟩
  go_wp2
  go_ret
  exact ⟨rfl, rfl⟩

end Go.Proofs.YtafpcekemlgclaaGreatDoor
