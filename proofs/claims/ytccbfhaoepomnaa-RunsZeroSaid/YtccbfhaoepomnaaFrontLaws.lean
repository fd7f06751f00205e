/- The walk of the laws' helper fronts, and Get behind Put. -/
import Derived.Test.YtccbfhaoepomnaaFrontWalk
import Derived.Test.YtccbfhaoepomnaaEqual
import Derived.Test.YtccbfhaoepomnaaBack
namespace Go.Proofs.Ytccbfhaoepomnaa
open Go.RowKit
set_option linter.unusedVariables false

theorem enc_aab : encF shelf0 (ByteArray.mk #[97, 97, 98]).data.toList = [97, 0, 98] := by decide +kernel

set_option maxHeartbeats 1000000 in
theorem fronts_any (w : World) : Calls Try.prog 15 #[] w fun e w' => e = .returned (.bool true) ∧ Below w.heap.size w w' := by
  have c1 : ∀ w, Calls Try.prog 16 #[.string ⟨#[97, 97, 98]⟩] w fun e w' => ∃ A c, e = .returned (.tuple #[.slice A 3 c, .int .i64 0]) ∧ Reads w' w'.heap.size A 3 1 [.int .i64 97, .int .i64 0, .int .i64 98] ∧ Below w.heap.size w w' := fun w =>
    (frontPut_ok ⟨#[97, 97, 98]⟩ (by decide) w).mono fun e w' ⟨A, c, he, hr, hb, _⟩ => by
      rw [enc_aab] at hr
      exact ⟨A, c, he, hr, hb⟩
  have C1 := Lib.hid c1
  clear c1
  go_enter Try.func15, Try.ntmps15
  go_wp2_with fail
  refine (C1.out _).mono ?_
  rintro e w1 ⟨A1, c1, rfl, hr1, hb1⟩
  go_wp2_with fail
  refine (equalInt_any A1 _ 3 3 c1 3 _ _ [97, 0, 98] [97, 0, 98] _ (by decide) (by decide) rfl rfl (hr1.alloc (Nat.le_refl _) _) (Reads.of_fresh w1 #[.int .i64 97, .int .i64 0, .int .i64 98] _ 3 1 rfl)).mono ?_
  rintro e w2 ⟨rfl, hb2⟩
  have hbw2 : Below w.heap.size w w2 := (hb1.alloc hb1.size _).trans (hb2.mono (by have := hb1.size; simp; omega))
  have q0 : decide (([97, 0, 98] : List Int) = [97, 0, 98]) = true := by decide
  go_wp2
  go_ret
  exact ⟨rfl, hbw2⟩

theorem enc_getOk (s : ByteArray) (hs : s.size ≤ 200) : GetOk (encF shelf0 s.data.toList) := ⟨by rw [encF_length]; exact hs, encF_bd shelf0_ok _⟩
/-- Get behind Put. -/
theorem frontGet_back (s : ByteArray) (hs : s.size ≤ 200) (A : Option Addr) (c B0 : Nat) (w : World) (h : Reads w B0 A s.size 1 ((encF shelf0 s.data.toList).flatMap cInt)) (hB0 : B0 ≤ w.heap.size) :
    Calls Try.prog 22 #[.slice A s.size c] w fun e w' => e = .returned (.tuple #[.string s, .int .i64 0]) ∧ Below w.heap.size w w' := by
  refine (frontGet_any A s.size c B0 (encF shelf0 s.data.toList) w (by omega) (by rw [encF_length]; rfl) h hB0).mono ?_
  rintro e w' ⟨hb, ⟨_, rfl⟩ | ⟨hno, _⟩⟩
  · rw [dec_enc shelf0_ok]
    exact ⟨congrArg (fun z => Ending.returned (.tuple #[.string z, .int .i64 0])) (ba_of s), hb⟩
  · exact absurd (enc_getOk s hs) hno

end Go.Proofs.Ytccbfhaoepomnaa
