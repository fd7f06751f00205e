/- The walk of reverseRangeOrdered at bytes. -/
import Derived.Test.YtpnpalbdlhlnkaaBs0
import Derived.Sort.WalkB12
namespace Go.Proofs.Ytpnpalbdlhlnkaa
open Go.RowKit Go.Sort
set_option linter.unusedVariables false

theorem bRev (blk off cap a b : Nat) (d : Array UInt8) (w : World) (hH : Holds c8 w blk off d) (hab : a ≤ b) (hb : b ≤ d.size) (hsz : d.size < 1000000000000) :
    Calls Try.prog 23 #[.slice (some ⟨blk, off, none⟩) d.size cap, .int .i64 a, .int .i64 b] w fun e w' => e = .returned (.tuple #[]) ∧ To8 w blk off (reverseRange d a b) w' := by
  go_enter Try.func23, Try.ntmps23
  go_wp2
  go_loopg [6, 7] (b - a) (fun k s6 s7 wr => ∃ (i j : Nat) (z : Int) (dk : Array UInt8) (n : Nat), s6 = .int .i64 i ∧ s7 = .int .i64 z ∧ ((i : Int) < z → z = j ∧ j < d.size) ∧ (¬ (i : Int) < z → ¬ i < j) ∧ j - i ≤ k ∧
    dk.size = d.size ∧ wr = putRow c8 (Sort.ahead w n) blk off dk ∧ reverseLoop i j dk = reverseLoop a (b - 1) d)
  case atStart => exact ⟨a, b - 1, (b : Int) - 1, d, 0, rfl, rfl, fun h => ⟨by omega, by omega⟩, fun h => by omega, by omega, rfl, (putRow_self c8 w blk off d hH).symm, rfl⟩
  case round =>
    obtain ⟨i, j, z, dk, n, rfl, rfl, h1, h2, hk, hds, hwr, heq⟩ := hrel
    by_cases hlt : (i : Int) < z
    · obtain ⟨rfl, hj⟩ := h1 hlt
      have hij : i < j := by omega
      obtain ⟨G, hG, hcw, hfw⟩ := fam8 hH hds hwr
      have HG := Lib.hid hG
      have HW := Lib.hid hwr
      clear hwr hH h1 h2 hG
      go_wp2_with fail
      go_region
      go_wp2
      go_roundg (j - 1 - (i + 1))
      case measure => omega
      case rel =>
        rw [reverseLoop, if_pos hij] at heq
        exact ⟨i + 1, j - 1, (j : Int) - 1, swp dk i j, n + 1, by simp, rfl, fun h => ⟨by omega, by omega⟩, fun h => by omega, Nat.le_refl _, by rw [size_swp]; exact hds,
          by rw [HW.out, HG.out, HG.out]; exact swap_worldA c8 w n 1 blk off dk i j (by omega) (by omega), heq⟩
    · have hnot := h2 hlt
      go_wp2
      go_end0
      refine ⟨rfl, n, ?_⟩
      rw [reverseLoop, if_neg hnot] at heq
      rw [reverseRange, ← heq]
end Go.Proofs.Ytpnpalbdlhlnkaa
