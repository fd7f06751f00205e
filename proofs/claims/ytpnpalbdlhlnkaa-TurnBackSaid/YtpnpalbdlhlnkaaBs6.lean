/- The walk of heapSortOrdered at bytes. -/
import Derived.Test.YtpnpalbdlhlnkaaBs5
namespace Go.Proofs.Ytpnpalbdlhlnkaa
open Go.RowKit Go.Sort
set_option linter.unusedVariables false

set_option maxHeartbeats 3200000 in
set_option maxRecDepth 1000000 in
theorem bHeap (blk off cap a b : Nat) (d : Array UInt8) (w : World) (hH : Holds c8 w blk off d) (hab : a ≤ b) (hb : b ≤ d.size) (hsz : d.size < 1000000000000) :
    Calls Try.prog 20 #[.slice (some ⟨blk, off, none⟩) d.size cap, .int .i64 a, .int .i64 b] w fun e w' => e = .returned (.tuple #[]) ∧ To8 w blk off (heapSort lt8 d a b) w' := by
  have ecast : ((b - a : Nat) : Int) = (b : Int) - (a : Int) := by omega
  have SD := Lib.hid (fun (dk : Array UInt8) (hs : dk.size = d.size) (lo hi : Nat) (wr : World) (n : Nat) (hw : wr = putRow c8 (Sort.ahead w n) blk off dk) (h1 : lo ≤ hi) (h2 : a + hi ≤ d.size) => show
      Calls Try.prog 39 #[.slice (some ⟨blk, off, none⟩) d.size cap, .int .i64 lo, .int .i64 hi, .int .i64 a] wr fun e w' => e = .returned (.tuple #[]) ∧ ∃ m, w' = putRow c8 (Sort.ahead w m) blk off (siftDown lt8 hi a lo dk) ∧ (siftDown lt8 hi a lo dk).size = d.size from by
    have hHk : Holds c8 wr blk off dk := by rw [hw]; exact holds_putRow c8 _ blk off d dk (holds_ahead c8 w n blk off d hH) hs
    have := bSift blk off cap dk lo hi a wr hHk h1 (by omega) (by omega)
    rw [hs] at this
    refine this.mono ?_
    rintro e w' ⟨he, m, hw'⟩
    have hz := size_siftDown lt8 hi a _ lo dk (Nat.le_refl _)
    exact ⟨he, n + m, by rw [hw', hw]; exact putRow_ahead_putRow c8 w n m blk off _ _ hz, by rw [hz]; exact hs⟩)
  go_enter Try.func20, Try.ntmps20
  go_wp2
  go_loopg [9] ((b - a - 1) / 2 + 1) (fun k s9 wr => s9 = .int .i64 ((k : Int) - 1) ∧ k ≤ (b - a - 1) / 2 + 1 ∧ ∃ (dk : Array UInt8) (n : Nat), dk.size = d.size ∧ wr = putRow c8 (Sort.ahead w n) blk off dk ∧
    heapBuild lt8 (b - a) a k dk = heapBuild lt8 (b - a) a ((b - a - 1) / 2 + 1) d)
  case atStart => exact ⟨by rw [half_start hab], Nat.le_refl _, d, 0, rfl, (putRow_self c8 w blk off d hH).symm, rfl⟩
  case round =>
    obtain ⟨rfl, hkk, dk, n, hds, hwr, heq⟩ := hrel
    cases gk with
    | zero =>
      have hB : dk = heapBuild lt8 (b - a) a ((b - a - 1) / 2 + 1) d := heq
      have HB := Lib.hid hB
      clear heq hkk hB
      have HW := Lib.hid hwr
      clear hwr
      go_wp2
      go_loopg [10] (b - a) (fun k s10 wr2 => s10 = .int .i64 ((k : Int) - 1) ∧ k ≤ b - a ∧ ∃ (dj : Array UInt8) (n2 : Nat), dj.size = d.size ∧ wr2 = putRow c8 (Sort.ahead w n2) blk off dj ∧ heapPop lt8 a k dj = heapPop lt8 a (b - a) dk)
      case atStart => exact ⟨by rw [ecast], Nat.le_refl _, dk, n, hds, HW.out, rfl⟩
      case round =>
        obtain ⟨rfl, hkk, dj, n2, hdj, hwr2, heq2⟩ := hrel
        cases gk with
        | zero =>
          go_wp2
          go_end0
          refine ⟨rfl, n2, ?_⟩
          have e : dj = heapSort lt8 d a b := by rw [heapSort, ← HB.out, ← heq2]; rfl
          rw [← e]
        | succ k =>
          obtain ⟨G, hG, hcw, hfw⟩ := fam8 hH hdj hwr2
          have HG := Lib.hid hG
          have HW2 := Lib.hid hwr2
          have HE := Lib.hid heq2
          clear hG hwr2 heq2
          have hsw : ∀ i j, (swp dj i j).size = d.size := fun i j => by rw [size_swp]; exact hdj
          rcases Nat.eq_zero_or_pos k with hk0 | hkp
          · subst hk0
            go_wp2_with fail
            go_region
            go_wp2_with fail
            refine (SD.out (swp dj a a) (hsw _ _) 0 0 _ (n2 + 1) (by rw [HW2.out, HG.out]; exact swap_worldA c8 w n2 1 blk off dj a a (by omega) (by omega)) (Nat.zero_le _) (by omega)).mono ?_
            rintro e w1 ⟨rfl, m, hw1, hz1⟩
            go_wp2
            go_roundg 0
            case measure => omega
            case rel => exact ⟨by simp, by omega, siftDown lt8 0 a 0 (swp dj a a), m, hz1, rfl, HE.out⟩
          · go_wp2_with fail
            go_region
            go_wp2_with fail
            refine (SD.out (swp dj a (a + k)) (hsw _ _) 0 k _ (n2 + 1) (by rw [HW2.out, HG.out, HG.out]; exact swap_worldA c8 w n2 1 blk off dj a (a + k) (by omega) (by omega)) (Nat.zero_le _) (by omega)).mono ?_
            rintro e w1 ⟨rfl, m, hw1, hz1⟩
            go_wp2
            go_roundg k
            case measure => omega
            case rel => exact ⟨by simp, by omega, siftDown lt8 k a 0 (swp dj a (a + k)), m, hz1, rfl, HE.out⟩
    | succ k =>
      have HW := Lib.hid hwr
      have HE := Lib.hid heq
      clear hwr heq
      have K := SD.out dk hds k (b - a) _ n HW.out (by omega) (by omega)
      rw [ecast] at K
      have K := Lib.hid K
      go_wp2_with fail
      refine K.out.mono ?_
      rintro e w1 ⟨rfl, m, hw1, hz1⟩
      go_wp2
      go_roundg k
      case measure => omega
      case rel => exact ⟨by simp, by omega, siftDown lt8 (b - a) a k dk, m, hz1, rfl, HE.out⟩
end Go.Proofs.Ytpnpalbdlhlnkaa
