/- The walk of choosePivotOrdered at bytes. -/
import Derived.Test.YtpnpalbdlhlnkaaBs3
import Derived.Sort.Walk11
namespace Go.Proofs.Ytpnpalbdlhlnkaa
open Go.RowKit Go.Sort
set_option linter.unusedVariables false

/-- The counter's world: n draws on, s swaps counted. -/
theorem pivotW (blk off cap : Nat) (d : Array UInt8) (w : World) (hH : Holds c8 w blk off d) (hblk : blk < w.heap.size) (hsz : d.size < 1000000000000) :
    ∃ Wc : Nat → Nat → World, w.alloc (.cells #[.int .i64 0] 3) = Wc 0 0 ∧ (∀ n s : Nat, (Wc n s).cell? ⟨w.heap.size, 0, none⟩ = some (.int .i64 (s : Int))) ∧ (∀ n s : Nat, ∃ os, Wc n s = grow (Sort.ahead w n) os) ∧
      (∀ x s n : Nat, 1 ≤ x → x + 1 < d.size → s ≤ 100 → Calls Try.prog 42 #[.slice (some ⟨blk, off, none⟩) d.size cap, .int .i64 (x : Int), .pointer (some ⟨w.heap.size, 0, none⟩)] (Wc n s) fun e w' =>
        e = .returned (.int .i64 ((medianAdjacent lt8 d x s).1 : Int)) ∧ ∃ n', w' = Wc n' (medianAdjacent lt8 d x s).2) ∧
      (∀ x y z s n : Nat, x < d.size → y < d.size → z < d.size → s ≤ 100 → Calls Try.prog 43 #[.slice (some ⟨blk, off, none⟩) d.size cap, .int .i64 (x : Int), .int .i64 (y : Int), .int .i64 (z : Int), .pointer (some ⟨w.heap.size, 0, none⟩)] (Wc n s) fun e w' =>
        e = .returned (.int .i64 ((median lt8 d x y z s).1 : Int)) ∧ ∃ n', w' = Wc n' (median lt8 d x y z s).2) := by
  have hne : w.heap.size ≠ blk := by omega
  have hH0 : Holds c8 (w.alloc (.cells #[.int .i64 0] 3)) blk off d := by rw [alloc_eq_grow]; exact holds_grow _ _ _ _ _ _ hblk hH
  have hS0 : Holds (Value.int .i64) (w.alloc (.cells #[.int .i64 0] 3)) w.heap.size 0 (one 0) := fun j hj => by
    obtain rfl : j = 0 := by simpa using hj
    simp
  refine ⟨fun n s => putRow (Value.int .i64) (Sort.ahead (w.alloc (.cells #[.int .i64 0] 3)) n) w.heap.size 0 (one s), (putRow_self _ _ _ _ _ hS0).symm, fun n s => (one_cell (holds_one (n := n) (t := s) hS0)).1, fun n s => ?_, ?_, ?_⟩
  · show ∃ os, putRow (Value.int .i64) (Sort.ahead (w.alloc (.cells #[.int .i64 0] 3)) n) w.heap.size 0 (one s) = grow (Sort.ahead w n) os
    rw [alloc_eq_grow, ahead_grow]
    obtain ⟨os, _, h⟩ := putRow_grow_new (Value.int .i64) (Sort.ahead w n) #[.cells #[.int .i64 0] 3] w.heap.size 0 (one s) (Nat.le_refl _)
    exact ⟨os, h⟩
  · intro x s n h1 h2 hs
    refine (bAdjacent d blk off cap x w.heap.size 0 s _ (aside8 hH0 hne) h1 h2 hne (holds_one hS0) (by omega) hsz).mono ?_
    rintro e w' ⟨he, m, hw⟩
    exact ⟨he, n + m, by rw [hw, one_one]⟩
  · intro x y z s n h1 h2 h3 hs
    refine (bMedian d blk off cap x y z w.heap.size 0 s _ (aside8 hH0 hne) h1 h2 h3 hne (holds_one hS0) (by omega) hsz).mono ?_
    rintro e w' ⟨he, m, hw⟩
    exact ⟨he, n + m, by rw [hw, one_one]⟩

set_option maxRecDepth 100000 in
set_option maxHeartbeats 1000000 in
theorem bPivot (blk off cap a b : Nat) (d : Array UInt8) (w : World) (hH : Holds c8 w blk off d) (hblk : blk < w.heap.size) (hab : a < b) (hb : b ≤ d.size) (hsz : d.size < 1000000000000) :
    Calls Try.prog 22 #[.slice (some ⟨blk, off, none⟩) d.size cap, .int .i64 a, .int .i64 b] w fun e w' =>
      e = .returned (.tuple #[.int .i64 (choosePivot lt8 d a b).1, .int .i64 (hintCode (choosePivot lt8 d a b).2)]) ∧ ∃ n os, w' = grow (Sort.ahead w n) os := by
  obtain ⟨Wc, hW0, cS, hG, MA, MD⟩ := pivotW blk off cap d w hH hblk hsz
  clear hH
  rw [choosePivot_eq]
  obtain ⟨I, hI⟩ : ∃ I : Nat, I = a + (b - a) / 4 * 1 := ⟨_, rfl⟩
  obtain ⟨J, hJ⟩ : ∃ J : Nat, J = a + (b - a) / 4 * 2 := ⟨_, rfl⟩
  obtain ⟨K, hK⟩ : ∃ K : Nat, K = a + (b - a) / 4 * 3 := ⟨_, rfl⟩
  have eI : ((a : Int) + ((b : Int) - (a : Int)) / 4) = (I : Int) := by omega
  have eJ : ((a : Int) + ((b : Int) - (a : Int)) / 4 * 2) = (J : Int) := by omega
  have eK : ((a : Int) + ((b : Int) - (a : Int)) / 4 * 3) = (K : Int) := by omega
  have fin : ∀ (p s : Nat), rawPivot lt8 d a b = (p, s) → ∃ hc : Int, (s = 0 → hc = 1) ∧ (s = 12 → hc = 2) ∧ (s ≠ 0 → s ≠ 12 → hc = 0) ∧ hintCode (hintOf s) = hc := fun p s _ => ⟨_, fun h => by rw [h]; rfl, fun h => by rw [h]; rfl, fun h1 h2 => by unfold hintOf; rw [if_neg h1, if_neg h2]; rfl, rfl⟩
  by_cases h8 : b - a ≥ 8
  · by_cases h50 : b - a ≥ 50
    · obtain ⟨i1, s1, h1⟩ : ∃ i1 s1, medianAdjacent lt8 d I 0 = (i1, s1) := ⟨_, _, rfl⟩
      obtain ⟨j1, s2, h2⟩ : ∃ j1 s2, medianAdjacent lt8 d J s1 = (j1, s2) := ⟨_, _, rfl⟩
      obtain ⟨k1, s3, h3⟩ : ∃ k1 s3, medianAdjacent lt8 d K s2 = (k1, s3) := ⟨_, _, rfl⟩
      obtain ⟨p, s, h4⟩ : ∃ p s, median lt8 d i1 j1 k1 s3 = (p, s) := ⟨_, _, rfl⟩
      have hraw : rawPivot lt8 d a b = (p, s) := by simp only [rawPivot, if_pos h8, if_pos h50, ← hI, ← hJ, ← hK, h1, h2, h3, h4]
      have m1 := medianAdjacent_mem lt8 d I 0
      have m2 := medianAdjacent_mem lt8 d J s1
      have m3 := medianAdjacent_mem lt8 d K s2
      have n1 := medianAdjacent_count lt8 d I 0
      have n2 := medianAdjacent_count lt8 d J s1
      have n3 := medianAdjacent_count lt8 d K s2
      rw [h1] at m1 n1
      rw [h2] at m2 n2
      rw [h3] at m3 n3
      simp only [] at m1 m2 m3 n1 n2 n3
      have C1 := MA I 0 0 (by omega) (by omega) (by omega)
      have C2 := fun N => MA J s1 N (by omega) (by omega) (by omega)
      have C3 := fun N => MA K s2 N (by omega) (by omega) (by omega)
      have C4 := fun N => MD i1 j1 k1 s3 N (by omega) (by omega) (by omega) (by omega)
      rw [h1] at C1
      simp only [h2] at C2
      simp only [h3] at C3
      simp only [h4] at C4
      have C1 := Lib.hid C1
      have C2 := Lib.hid C2
      have C3 := Lib.hid C3
      have C4 := Lib.hid C4
      obtain ⟨hc, g0, g12, gx, ge⟩ := fin p s hraw
      rw [hraw]
      show Calls Try.prog 22 _ w fun e w' => e = .returned (.tuple #[.int .i64 (p : Int), .int .i64 (hintCode (hintOf s))]) ∧ ∃ n os, w' = grow (Sort.ahead w n) os
      rw [ge]
      clear ge hraw h1 h2 h3 h4 MA MD hI hJ hK m1 m2 m3 fin
      go_enter Try.func22, Try.ntmps22
      go_wp2_with fail
      refine C1.out.mono ?_
      rintro e w' ⟨rfl, N1, rfl⟩
      go_wp2_with fail
      refine (C2.out _).mono ?_
      rintro e w' ⟨rfl, N2, rfl⟩
      go_wp2_with fail
      refine (C3.out _).mono ?_
      rintro e w' ⟨rfl, N3, rfl⟩
      go_wp2_with fail
      refine (C4.out _).mono ?_
      rintro e w' ⟨rfl, N4, rfl⟩
      go_wp2
      all_goals
        go_ret2
        refine ⟨?_, _, hG _ _⟩
        first
          | (have e0 : (s : Int) = 0 := of_beq_int (by assumption)
             rw [g0 (by omega)]; rfl)
          | (have e1 : (s : Int) = 12 := of_beq_int (by assumption)
             rw [g12 (by omega)]; rfl)
          | (have e0 : (s : Int) ≠ 0 := of_bne_int (by assumption)
             have e1 : (s : Int) ≠ 12 := of_bne_int (by assumption)
             rw [gx (by omega) (by omega)]; rfl)
          | (rw [g0 (by omega)]; rfl)
    · obtain ⟨p, s, h4⟩ : ∃ p s, median lt8 d I J K 0 = (p, s) := ⟨_, _, rfl⟩
      have hraw : rawPivot lt8 d a b = (p, s) := by simp only [rawPivot, if_pos h8, if_neg h50, ← hI, ← hJ, ← hK, h4]
      have C4 := MD I J K 0 0 (by omega) (by omega) (by omega) (by omega)
      rw [h4] at C4
      have C4 := Lib.hid C4
      obtain ⟨hc, g0, g12, gx, ge⟩ := fin p s hraw
      rw [hraw]
      show Calls Try.prog 22 _ w fun e w' => e = .returned (.tuple #[.int .i64 (p : Int), .int .i64 (hintCode (hintOf s))]) ∧ ∃ n os, w' = grow (Sort.ahead w n) os
      rw [ge]
      clear ge hraw h4 MA MD hI hJ hK fin
      go_enter Try.func22, Try.ntmps22
      go_wp2_with fail
      refine C4.out.mono ?_
      rintro e w' ⟨rfl, N4, rfl⟩
      go_wp2
      all_goals
        go_ret2
        refine ⟨?_, _, hG _ _⟩
        first
          | (have e0 : (s : Int) = 0 := of_beq_int (by assumption)
             rw [g0 (by omega)]; rfl)
          | (have e1 : (s : Int) = 12 := of_beq_int (by assumption)
             rw [g12 (by omega)]; rfl)
          | (have e0 : (s : Int) ≠ 0 := of_bne_int (by assumption)
             have e1 : (s : Int) ≠ 12 := of_bne_int (by assumption)
             rw [gx (by omega) (by omega)]; rfl)
          | (rw [g0 (by omega)]; rfl)
  · obtain ⟨s, hs⟩ : ∃ s : Nat, s = 0 := ⟨_, rfl⟩
    have hraw : rawPivot lt8 d a b = (J, s) := by simp only [rawPivot, if_neg h8, ← hJ, hs]
    obtain ⟨hc, g0, g12, gx, ge⟩ := fin J s hraw
    rw [hraw]
    show Calls Try.prog 22 _ w fun e w' => e = .returned (.tuple #[.int .i64 (J : Int), .int .i64 (hintCode (hintOf s))]) ∧ ∃ n os, w' = grow (Sort.ahead w n) os
    rw [ge]
    clear ge hraw MA MD hI hJ hK fin
    have hW0' : w.alloc (.cells #[.int .i64 0] 3) = Wc 0 s := by rw [hs]; exact hW0
    clear hW0
    go_enter Try.func22, Try.ntmps22
    go_wp2
    all_goals
      go_ret2
      refine ⟨?_, _, hG _ _⟩
      first
        | (have e0 : (s : Int) = 0 := of_beq_int (by assumption)
           rw [g0 (by omega)]; rfl)
        | (have e1 : (s : Int) = 12 := of_beq_int (by assumption)
           rw [g12 (by omega)]; rfl)
        | (have e0 : (s : Int) ≠ 0 := of_bne_int (by assumption)
           have e1 : (s : Int) ≠ 12 := of_bne_int (by assumption)
           rw [gx (by omega) (by omega)]; rfl)
        | (rw [g0 (by omega)]; rfl)
end Go.Proofs.Ytpnpalbdlhlnkaa
