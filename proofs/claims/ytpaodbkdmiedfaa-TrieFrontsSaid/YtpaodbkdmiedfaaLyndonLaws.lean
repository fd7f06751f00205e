/- lyndon.Split at long texts, lyndon.Is, and the laws' helper lyndons. -/
import Derived.Test.YtpaodbkdmiedfaaLyndonWalk
import Derived.Test.YtpaodbkdmiedfaaEqual
import Derived.Test.YtpaodbkdmiedfaaGood
import Derived.Test.YtpaodbkdmiedfaaKeep
namespace Go.Proofs.Ytpaodbkdmiedfaa
open Go.RowKit
set_option linter.unusedVariables false

theorem bless_eq : ∀ a b : List UInt8, Op.bytesLess a b = llt a b
  | _, [] => by unfold Op.bytesLess llt; cases ‹List UInt8› <;> rfl
  | [], _ :: _ => rfl
  | x :: a, y :: b => by rw [Op.bytesLess, llt, bless_eq a b]
/-- '<', as the model asks it. -/
theorem less_is {x y : ByteArray} {b : Bool} (h : llt x.data.toList y.data.toList = b) : Op.bytesLess x.toList y.toList = b := by
  rw [bless_eq, ByteArray.toList_eq, ByteArray.toList_eq]; exact h
theorem leq_is {x y : ByteArray} (h : lle x.data.toList y.data.toList) : (Op.bytesLess x.toList y.toList || x.toList == y.toList) = true := by
  rw [Bool.or_eq_true]
  rcases lle_iff.1 h with h | h
  · exact .inl (less_is h)
  · exact .inr (by rw [ByteArray.toList_eq, ByteArray.toList_eq, h]; simp)
theorem leq_not {x y : ByteArray} (h : llt y.data.toList x.data.toList = true) : (Op.bytesLess x.toList y.toList || x.toList == y.toList) = false := by
  rw [Bool.or_eq_false_iff]
  constructor
  · refine less_is ?_
    exact lle_of_lt h
  · rw [beq_eq_false_iff_ne]
    intro e
    rw [ByteArray.toList_eq, ByteArray.toList_eq] at e
    rw [e, llt_irrefl] at h; cases h

set_option maxHeartbeats 400000 in
theorem split_no (s : ByteArray) (hs : 200 < s.size) (w : World) :
    Calls Try.prog 25 #[.string s] w fun e w' => e = .returned (.tuple #[.slice none 0 0, .int .i64 2]) ∧ w = w' := by
  go_enter Try.func25, Try.ntmps25
  go_wp2_with fail
  refine (wordCheck_no s hs _).mono ?_
  rintro e w1 ⟨rfl, rfl⟩
  go_wp2
  go_ret2
  exact ⟨rfl, rfl⟩

/-- It is told whether the text is one Lyndon word. -/
def ToldIs (t : List UInt8) (w : World) (e : Ending) (w' : World) : Prop := ∃ b : Bool, (b = true ↔ Lyn t) ∧ e = .returned (.tuple #[.bool b, .int .i64 0]) ∧ Below w.heap.size w w'

theorem lyndon_known : Cfl [97, 98, 97, 97, 98] [[97, 98], [97, 97, 98]] := by
  have h1 : Lyn [97, 98] := lyn_join (lyn_one 97) (lyn_one 98) (by decide)
  refine ⟨rfl, ?_, ?_⟩
  · intro f hf
    rw [List.mem_cons, List.mem_singleton] at hf
    rcases hf with rfl | rfl
    · exact h1
    · exact lyn_join (lyn_one 97) h1 (by decide)
  · rw [List.pairwise_cons]
    refine ⟨fun f hf => ?_, by simp⟩
    rw [List.mem_singleton] at hf
    subst hf
    show llt [97, 98] [97, 97, 98] = false
    decide

set_option maxHeartbeats 1000000 in
theorem lyndons_any (w : World) : Calls Try.prog 24 #[] w fun e w' => e = .returned (.bool true) ∧ Below w.heap.size w w' := by
  have c1 : ∀ w, Calls Try.prog 25 #[.string ⟨#[97, 98, 97, 97, 98]⟩] w fun e w' => ∃ A c, e = .returned (.tuple #[.slice A 2 c, .int .i64 0]) ∧ Reads w' w'.heap.size A 2 1 [.string ⟨#[97, 98]⟩, .string ⟨#[97, 97, 98]⟩] ∧ Below w.heap.size w w' := fun w =>
    (split_ok ⟨#[97, 98, 97, 97, 98]⟩ (by decide) w).mono fun e w' ⟨F, A, c, hF, he, hr, hb, _⟩ => by
      have hf := cfl_eq hF lyndon_known
      rw [hf] at he hr
      exact ⟨A, c, he, hr, hb⟩
  have C1 := Lib.hid c1
  clear c1
  go_enter Try.func24, Try.ntmps24
  go_wp2_with fail
  refine (C1.out _).mono ?_
  rintro e w1 ⟨A1, c1, rfl, hr1, hb1⟩
  go_wp2_with fail
  refine (equalStr_any A1 _ 2 2 c1 2 _ _ [⟨#[97, 98]⟩, ⟨#[97, 97, 98]⟩] [⟨#[97, 98]⟩, ⟨#[97, 97, 98]⟩] _ (by decide) (by decide) rfl rfl (hr1.alloc (Nat.le_refl _) _) (Reads.of_fresh w1 #[.string ⟨#[97, 98]⟩, .string ⟨#[97, 97, 98]⟩] _ 2 1 rfl)).mono ?_
  rintro e w4 ⟨rfl, hb4⟩
  have q1 : decide (([⟨#[97, 98]⟩, ⟨#[97, 97, 98]⟩] : List ByteArray) = [⟨#[97, 98]⟩, ⟨#[97, 97, 98]⟩]) = true := decide_eq_true rfl
  have hbw4 : Below w.heap.size w w4 := (hb1.alloc hb1.size _).trans (hb4.mono (by have := hb1.size; simp; omega))
  go_wp2
  go_ret
  exact ⟨by simp, hbw4⟩

end Go.Proofs.Ytpaodbkdmiedfaa
