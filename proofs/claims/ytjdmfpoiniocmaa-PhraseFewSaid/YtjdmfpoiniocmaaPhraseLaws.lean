/- The walk of the laws' helper phrases. -/
import Derived.Test.YtjdmfpoiniocmaaPhraseWalk
import Derived.Test.YtjdmfpoiniocmaaEqual
namespace Go.Proofs.Ytjdmfpoiniocmaa
open Go.RowKit
set_option linter.unusedVariables false

theorem phrases_aabab : putP [97, 97, 98, 97, 98] = ([(0, 97), (1, 98)], [[], [97], [97, 98]], 3) := by decide +kernel
theorem buildPhrase1 (a1 : Int) (w : World) : (Instr.build 88 #[(1, .int .u8 a1)]).run Try.prog w = .ok (.agg #[.int .i64 0, .int .u8 a1]) w := run_build w 88 _ _ (by kernel_rfl)

set_option maxHeartbeats 1000000 in
theorem phrases_any (w : World) : Calls Try.prog 27 #[] w fun e w' => e = .returned (.bool true) ∧ Below w.heap.size w w' := by
  have c1 : ∀ w, Calls Try.prog 28 #[.string ⟨#[97, 97, 98, 97, 98]⟩] w fun e w' => ∃ A c, e = .returned (.tuple #[.slice A 2 c, .string ⟨#[97, 98]⟩, .int .i64 0]) ∧ Reads w' w'.heap.size A 2 2 [.int .i64 0, .int .u8 97, .int .i64 1, .int .u8 98] ∧ Below w.heap.size w w' := fun w =>
    (phrasePut_ok ⟨#[97, 97, 98, 97, 98]⟩ (by decide) w).mono fun e w' ⟨A, c, he, hr, hb, _⟩ => by
      rw [show (ByteArray.mk #[97, 97, 98, 97, 98]).data.toList = [97, 97, 98, 97, 98] from rfl, phrases_aabab] at he hr
      exact ⟨A, c, he, hr, hb⟩
  have C1 := Lib.hid c1
  clear c1
  have hbd := buildPhrase
  have hbd1 := buildPhrase1
  go_enter Try.func27, Try.ntmps27
  go_wp2_with fail
  refine (C1.out _).mono ?_
  rintro e w1 ⟨A1, c1, rfl, hr1, hb1⟩
  go_wp2_with fail
  refine (equalPhrase_any A1 _ 2 2 c1 2 _ _ [(0, 97), (1, 98)] [(0, 97), (1, 98)] _ (by decide) (by decide) rfl rfl (hr1.alloc (Nat.le_refl _) _) (Reads.of_fresh w1 #[.int .i64 0, .int .u8 97, .int .i64 1, .int .u8 98] _ 2 2 rfl)).mono ?_
  rintro e w2 ⟨rfl, hb2⟩
  have hbw2 : Below w.heap.size w w2 := (hb1.alloc hb1.size _).trans (hb2.mono (by have := hb1.size; simp; omega))
  have q0 : decide (([(0, 97), (1, 98)] : List (Int × UInt8)) = [(0, 97), (1, 98)]) = true := by decide
  go_wp2
  go_ret
  exact ⟨rfl, hbw2⟩

theorem sizePhrase (w : World) : (sizeOf (Try.prog.elem 52)).run Try.prog w = .ok 2 w := by
  rw [show Try.prog.elem 52 = 88 from by kernel_rfl]
  exact Try.sizeOf88 w
end Go.Proofs.Ytjdmfpoiniocmaa
