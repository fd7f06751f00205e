/- The walk of the laws' helper sames; a string of one new byte. -/
import Derived.Test.YtbcendaiakeabaaSameWalk
import Derived.Test.YtbcendaiakeabaaGood
import Derived.Test.YtbcendaiakeabaaBack
namespace Go.Proofs.Ytbcendaiakeabaa
open Go.RowKit
set_option linter.unusedVariables false

theorem lcs_known : lcs (ByteArray.mk #[97, 98, 99, 98, 100, 97, 98]).data.toList (ByteArray.mk #[98, 100, 99, 97, 98, 97]).data.toList = 4 := by decide +kernel
theorem sub_known : decide ((ByteArray.mk #[98, 99, 98, 97]).data.toList.Sublist (ByteArray.mk #[97, 98, 99, 98, 100, 97, 98]).data.toList) = true := by decide +kernel

set_option maxHeartbeats 1000000 in
theorem sames_any (w : World) : Calls Try.prog 19 #[] w fun e w' => e = .returned (.bool true) ∧ Below w.heap.size w w' := by
  have c1 : ∀ w, Calls Try.prog 14 #[.string ⟨#[97, 98, 99, 98, 100, 97, 98]⟩, .string ⟨#[98, 100, 99, 97, 98, 97]⟩] w fun e w' => e = .returned (.tuple #[.int .i64 4, .int .i64 0]) ∧ Below w.heap.size w w' := fun w => by
    have := long_ok ⟨#[97, 98, 99, 98, 100, 97, 98]⟩ ⟨#[98, 100, 99, 97, 98, 97]⟩ (by decide) (by decide) w
    rw [lcs_known] at this
    exact this
  have c2 : ∀ w, Calls Try.prog 21 #[.string ⟨#[98, 99, 98, 97]⟩, .string ⟨#[97, 98, 99, 98, 100, 97, 98]⟩] w fun e w' => e = .returned (.tuple #[.bool true, .int .i64 0]) ∧ Below w.heap.size w w' := fun w => by
    have := sameWithin_ok ⟨#[98, 99, 98, 97]⟩ ⟨#[97, 98, 99, 98, 100, 97, 98]⟩ (by decide) (by decide) w
    rw [sub_known] at this
    exact this
  have C1 := Lib.hid c1
  have C2 := Lib.hid c2
  clear c1 c2
  go_enter Try.func19, Try.ntmps19
  go_wp2_with fail
  refine (C1.out _).mono ?_
  rintro e w1 ⟨rfl, hb1⟩
  go_wp2_with fail
  refine (C2.out _).mono ?_
  rintro e w2 ⟨rfl, hb2⟩
  have hbw := chain hb2 hb1
  go_wp2_with fail
  refine (good_fresh [0, 0] 2 2 rfl (by decide) _ _).mono ?_
  rintro e w3 ⟨rfl, hb3⟩
  have q0 : ([0, 0] : List Int).all (· == 0) = true := by decide
  go_wp2
  go_ret
  exact ⟨by simp, chain hb3 hbw⟩

/-- 'string([]byte{x})'. -/
theorem one_byte {P : Program} (w : World) (src dst e : TypeId) (x : UInt8) (hs : P.underlying src = some (.slice e)) (he : P.underlying e = some (.int .u8)) (hd : P.underlying dst = some .string) :
    (convert src dst (.slice (some ⟨w.heap.size, 0, none⟩) 1 1)).run P (w.alloc (.cells #[.int .u8 (x.toNat : Int)] e)) = .ok (.string ⟨#[x]⟩) (w.alloc (.cells #[.int .u8 (x.toNat : Int)] e)) := by
  refine run_string_of (w.alloc (.cells #[.int .u8 (x.toNat : Int)] e)) src dst e ⟨w.heap.size, 0, none⟩ 1 1 [x] rfl hs he hd fun j hj => ?_
  have : j = 0 := by simp at hj; omega
  subst this
  rw [add_zero, World.cell?_alloc_mark]
  rfl

end Go.Proofs.Ytbcendaiakeabaa
