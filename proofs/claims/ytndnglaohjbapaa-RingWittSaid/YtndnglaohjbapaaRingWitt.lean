/- RingWitt's walk: d times the numbers of Lyndon words of length d, over all d that divide n, add up to k to the n. -/
import Derived.Test.YtndnglaohjbapaaRingWalk
namespace Go.Proofs.Ytndnglaohjbapaa
open Go.RowKit
set_option linter.unusedVariables false

set_option maxHeartbeats 400000 in
theorem ringWitt_walk (k0 n0 : Int) (hw1 : (Lit.int .i64 k0).wf = true) (hw2 : (Lit.int .i64 n0).wf = true) (w : World) :
    Calls Try.prog 5 #[.int .i64 k0, .int .i64 n0] w fun e w' => e = .returned (.bool true) ∧ Below w.heap.size w w' := by
  have c24 : ∀ w, Calls Try.prog 20 #[.int .i64 2, .int .i64 4] w fun e w' => e = .returned (.tuple #[.int .i64 3, .int .i64 0]) ∧ Below w.heap.size w w' := fun w =>
    (ringWords_ok 2 4 ⟨by decide, by decide, by decide, by decide, by decide⟩ w).mono fun e w' ⟨he, hb⟩ => ⟨by rw [he, show wordsOf 2 4 = 3 from by decide +kernel], hb⟩
  have C24 := Lib.hid c24
  clear c24
  rcases ringCheck_cases k0 n0 with ⟨k, n, rfl, rfl, h⟩ | ⟨E, hE, hc⟩
  · have hn5 := h.n512
    go_enter Try.func5, Try.ntmps5
    go_wp2_with fail
    refine (C24.out _).mono ?_
    rintro e w1 ⟨rfl, hb1⟩
    go_wp2_with fail
    refine (ringWords_ok k n h _).mono ?_
    rintro e w2 ⟨rfl, hb2⟩
    have hb := chain hb2 hb1
    clear hb1 hb2
    go_wp2
    go_loopw [9, 10, 11] (fun x p d wr => ∃ j : Nat, j ≤ n ∧ d = .int .i64 ((j : Int) + 1) ∧ x = .int .i64 (witt k n j) ∧ p = .int .i64 ((k ^ j : Nat) : Int) ∧ 0 ≤ witt k n j ∧ witt k n j ≤ j * 262144 ∧ Below w.heap.size w wr) (fun _ _ d _ => n + 1 - (intOf d).toNat)
    case atStart => exact ⟨0, Nat.zero_le _, rfl, rfl, by simp, by simp [witt], by simp [witt], hb⟩
    case round =>
      obtain ⟨j, hj, rfl, rfl, rfl, hx0, hx1, hbr⟩ := hrel
      by_cases hlt : j < n
      · obtain ⟨h0, h1, h2⟩ := pow_next (Nat.le_trans (pow_le h.k1 (show j + 1 ≤ n from hlt)) h.pow)
        have H2 := Lib.hid h2
        clear h2
        generalize hq : ((k ^ j : Nat) : Int) = q at *
        have Hq := Lib.hid hq
        clear hq
        have hf := h.less (show 1 ≤ j + 1 by omega) (show j + 1 ≤ n by omega)
        by_cases hm : n % (j + 1) = 0
        · have hm' : ((n : Int) % ((j : Int) + 1) == 0) = true := by rw [beq_iff_eq, mod_cast2, hm]; rfl
          have hwd := words_bd h (j + 1) (by omega)
          have hs : witt k n (j + 1) = witt k n j + ((j : Int) + 1) * wordsOf k (j + 1) := by rw [witt, if_pos hm]; simp
          have hp0 : 0 ≤ ((j : Int) + 1) * wordsOf k (j + 1) := Int.mul_nonneg (by omega) hwd.1
          have hp1 : ((j : Int) + 1) * wordsOf k (j + 1) ≤ 262144 := Int.le_trans (Int.mul_le_mul (show ((j : Int) + 1) ≤ 512 by omega) hwd.2 hwd.1 (by decide)) (by decide)
          have hlt0 : decide (wordsOf k (j + 1) < 0) = false := by simp; omega
          have Hs := Lib.hid hs
          clear hs hm
          generalize hX : witt k n j = X at *
          have HX := Lib.hid hX
          clear hX
          go_wp2_with fail
          refine (ringWords_ok k (j + 1) hf _).mono ?_
          rintro e w3 ⟨rfl, hb3⟩
          generalize wordsOf k (j + 1) = v at *
          go_wp2
          go_roundw
          case rel => exact ⟨j + 1, by omega, by go_num, by rw [Hs.out], by rw [H2.out], by rw [Hs.out]; omega, by rw [Hs.out]; simp; omega, chain hb3 hbr⟩
          case measure => simp [intOf]; omega
        · have hm' : ((n : Int) % ((j : Int) + 1) == 0) = false := by rw [beq_eq_false_iff_ne, mod_cast2]; omega
          have hs : witt k n (j + 1) = witt k n j := by rw [witt, if_neg hm]
          have Hs := Lib.hid hs
          clear hs hm
          generalize hX : witt k n j = X at *
          have HX := Lib.hid hX
          clear hX
          go_wp2
          go_roundw
          case rel => exact ⟨j + 1, by omega, by go_num, by rw [Hs.out], by rw [H2.out], by rw [Hs.out]; omega, by rw [Hs.out]; simp; omega, hbr⟩
          case measure => simp [intOf]; omega
      · obtain rfl : j = n := by omega
        have hl := witt_law h
        generalize hX : witt k j j = X at *
        generalize hq : ((k ^ j : Nat) : Int) = q at *
        subst hl
        go_wp2
        go_ret
        exact ⟨by simp, hbr⟩
  · have hE' : (E == 0) = false := by simpa using hE
    have hE2 : (E != 0) = true := by simpa using hE
    have HC := Lib.hid hc
    clear hc
    go_enter Try.func5, Try.ntmps5
    go_wp2_with fail
    refine (C24.out _).mono ?_
    rintro e w1 ⟨rfl, hb1⟩
    go_wp2_with fail
    refine (ringWords_no k0 n0 E hE HC.out _).mono ?_
    rintro e w2 ⟨rfl, rfl⟩
    go_wp2
    go_ret
    exact ⟨rfl, hb1⟩

end Go.Proofs.Ytndnglaohjbapaa
