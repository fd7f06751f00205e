/- lyndon.Split at long texts, lyndon.Is, and the laws' helper lyndons. -/
import Derived.Test.YtmephgemokngnaaLyndonWalk
import Derived.Test.YtmephgemokngnaaEqual
import Derived.Test.YtmephgemokngnaaGood
import Derived.Test.YtmephgemokngnaaKeep
namespace Go.Proofs.Ytmephgemokngnaa
open Go.RowKit
set_option linter.unusedVariables false

theorem bless_eq : ∀ a b : List UInt8, Op.bytesLess a b = llt a b
  | _, [] => by unfold Op.bytesLess llt; cases ‹List UInt8› <;> rfl
  | [], _ :: _ => rfl
  | x :: a, y :: b => by rw [Op.bytesLess, llt, bless_eq a b]
/-- '<', as the model asks it. -/
theorem less_is {x y : ByteArray} {b : Bool} (h : llt x.data.toList y.data.toList = b) : Op.bytesLess x.toList y.toList = b := by
  rw [bless_eq, ByteArray.toList_eq, ByteArray.toList_eq]; exact h
theorem leq_is {x y : ByteArray} (h : lle x.data.toList y.data.toList) : (Op.bytesLess x.toList y.toList || x.toList == y.toList) = true := by
  rw [Bool.or_eq_true]
  rcases lle_iff.1 h with h | h
  · exact .inl (less_is h)
  · exact .inr (by rw [ByteArray.toList_eq, ByteArray.toList_eq, h]; simp)
theorem leq_not {x y : ByteArray} (h : llt y.data.toList x.data.toList = true) : (Op.bytesLess x.toList y.toList || x.toList == y.toList) = false := by
  rw [Bool.or_eq_false_iff]
  constructor
  · refine less_is ?_
    exact lle_of_lt h
  · rw [beq_eq_false_iff_ne]
    intro e
    rw [ByteArray.toList_eq, ByteArray.toList_eq] at e
    rw [e, llt_irrefl] at h; cases h

set_option maxHeartbeats 400000 in
theorem split_no (s : ByteArray) (hs : 200 < s.size) (w : World) :
    Calls Try.prog 18 #[.string s] w fun e w' => e = .returned (.tuple #[.slice none 0 0, .int .i64 2]) ∧ w = w' := by
  go_enter Try.func18, Try.ntmps18
  go_wp2_with fail
  refine (wordCheck_no s hs _).mono ?_
  rintro e w1 ⟨rfl, rfl⟩
  go_wp2
  go_ret2
  exact ⟨rfl, rfl⟩

/-- It is told whether the text is one Lyndon word. -/
def ToldIs (t : List UInt8) (w : World) (e : Ending) (w' : World) : Prop := ∃ b : Bool, (b = true ↔ Lyn t) ∧ e = .returned (.tuple #[.bool b, .int .i64 0]) ∧ Below w.heap.size w w'

theorem lyndon_known : Cfl [97, 98, 97, 97, 98] [[97, 98], [97, 97, 98]] := by
  have h1 : Lyn [97, 98] := lyn_join (lyn_one 97) (lyn_one 98) (by decide)
  refine ⟨rfl, ?_, ?_⟩
  · intro f hf
    rw [List.mem_cons, List.mem_singleton] at hf
    rcases hf with rfl | rfl
    · exact h1
    · exact lyn_join (lyn_one 97) h1 (by decide)
  · rw [List.pairwise_cons]
    refine ⟨fun f hf => ?_, by simp⟩
    rw [List.mem_singleton] at hf
    subst hf
    show llt [97, 98] [97, 97, 98] = false
    decide


end Go.Proofs.Ytmephgemokngnaa
