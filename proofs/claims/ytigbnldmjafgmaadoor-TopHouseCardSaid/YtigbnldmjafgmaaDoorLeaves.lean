/- The walk of the laws' helper leaves. -/
import Derived.Test.YtigbnldmjafgmaaDoorLeafRead
import Derived.Test.YtigbnldmjafgmaaDoorGood
import Derived.Test.YtigbnldmjafgmaaDoorSlice
namespace Go.Proofs.YtigbnldmjafgmaaDoor
open Go.RowKit
set_option linter.unusedVariables false

theorem edsAt_new (w : World) (a d : Int) (ins : ByteArray) (c : Nat) (h : (-9223372036854775808 ≤ a ∧ a ≤ 9223372036854775807) ∧ (-9223372036854775808 ≤ d ∧ d ≤ 9223372036854775807) ∧ ins.size ≤ 140737488351232) :
    EdsAt (w.alloc (Obj.cells #[.int .i64 a, .int .i64 d, .string ins] 89)) (some ⟨w.heap.size, 0, none⟩) 1 c [(a, d, ins)] :=
  ⟨rfl, by decide, fun x hx => by rw [List.mem_singleton.1 hx]; exact h, Reads.made w #[.int .i64 a, .int .i64 d, .string ins] 89 1 3 rfl⟩
def lvH1 : LH := [(98 :: (ByteArray.mk #[97, 98]).data.toList, ⟨#[97, 98]⟩)]
def lvH2 : LH := lvH1 ++ [(101 :: writeL [(2, 0, ⟨#[99]⟩)], ⟨#[97, 98, 99]⟩)]
theorem lv1 : leafE ⟨#[97, 98]⟩ lvH1 [(2, 0, ⟨#[99]⟩)] = 0 ∧ leafT ⟨#[97, 98]⟩ lvH1 [(2, 0, ⟨#[99]⟩)] = ⟨#[97, 98, 99]⟩ := by decide +kernel
theorem lv2 : leafH ⟨#[97, 98]⟩ lvH1 [(2, 0, ⟨#[99]⟩)] = lvH2 := by
  unfold leafH
  rw [if_pos lv1.1, lv1.2]; rfl
theorem lv3 : leafE ⟨#[97, 98, 99]⟩ lvH2 [(0, 1, ⟨#[]⟩)] = 0 ∧ leafT ⟨#[97, 98, 99]⟩ lvH2 [(0, 1, ⟨#[]⟩)] = ⟨#[98, 99]⟩ := by decide +kernel
def lvH3 : LH := lvH2 ++ [(101 :: writeL [(0, 1, ⟨#[]⟩)], ⟨#[98, 99]⟩)]
theorem lv4 : leafH ⟨#[97, 98, 99]⟩ lvH2 [(0, 1, ⟨#[]⟩)] = lvH3 := by
  unfold leafH
  rw [if_pos lv3.1, lv3.2]; rfl
theorem lv5 : lvH3.take lvH2.length = lvH2 := rfl

end Go.Proofs.YtigbnldmjafgmaaDoor
