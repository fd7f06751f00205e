/- RingMany's walk: the number of necklaces is the sum of the numbers of Lyndon words over all divisors of n. -/
import Derived.Test.YtndnglaohjbapaaRingWalk
namespace Go.Proofs.Ytndnglaohjbapaa
open Go.RowKit
set_option linter.unusedVariables false

set_option maxHeartbeats 400000 in
theorem rings_any (w : World) :
    Calls Try.prog 36 #[] w fun e w' => e = .returned (.bool true) ∧ Below w.heap.size w w' := by
  have c23 : ∀ w, Calls Try.prog 37 #[.int .i64 2, .int .i64 3] w fun e w' => e = .returned (.tuple #[.int .i64 4, .int .i64 0]) ∧ Below w.heap.size w w' := fun w =>
    (ringRings_ok 2 3 ⟨by decide, by decide, by decide, by decide, by decide⟩ w).mono fun e w' ⟨he, hb⟩ => ⟨by rw [he, show ringsOf 2 3 = 4 from by decide +kernel], hb⟩
  have C23 := Lib.hid c23
  clear c23
  go_enter Try.func36, Try.ntmps36
  go_wp2_with fail
  refine (C23.out _).mono ?_
  rintro e w1 ⟨rfl, hb1⟩
  go_wp2
  go_ret
  exact ⟨rfl, hb1⟩

set_option maxHeartbeats 400000 in
theorem ringMany_walk (k0 n0 : Int) (hw1 : (Lit.int .i64 k0).wf = true) (hw2 : (Lit.int .i64 n0).wf = true) (w : World) :
    Calls Try.prog 13 #[.int .i64 k0, .int .i64 n0] w fun e w' => e = .returned (.bool true) ∧ Below w.heap.size w w' := by
  rcases ringCheck_cases k0 n0 with ⟨k, n, rfl, rfl, h⟩ | ⟨E, hE, hc⟩
  · have hn5 := h.n512
    have hlaw := many_law h
    have Hlaw := Lib.hid hlaw
    clear hlaw
    go_enter Try.func13, Try.ntmps13
    go_wp2_with fail
    refine (rings_any _).mono ?_
    rintro e w1 ⟨rfl, hb1⟩
    go_wp2_with fail
    refine (ringRings_ok k n h _).mono ?_
    rintro e w2 ⟨rfl, hb2⟩
    have hb := chain hb2 hb1
    clear hb1 hb2
    generalize hR : ringsOf k n = R at *
    have HR := Lib.hid hR
    clear hR
    go_wp2
    go_loopw [7, 8] (fun x d wr => ∃ j : Nat, j ≤ n ∧ d = .int .i64 ((j : Int) + 1) ∧ x = .int .i64 (many k n j) ∧ 0 ≤ many k n j ∧ many k n j ≤ j * 512 ∧ Below w.heap.size w wr) (fun _ d _ => n + 1 - (intOf d).toNat)
    case atStart => exact ⟨0, Nat.zero_le _, rfl, rfl, by simp [many], by simp [many], hb⟩
    case round =>
      obtain ⟨j, hj, rfl, rfl, hx0, hx1, hbr⟩ := hrel
      by_cases hlt : j < n
      · have hf := h.less (show 1 ≤ j + 1 by omega) (show j + 1 ≤ n by omega)
        by_cases hm : n % (j + 1) = 0
        · have hm' : ((n : Int) % ((j : Int) + 1) == 0) = true := by rw [beq_iff_eq, mod_cast2, hm]; rfl
          have hwd := words_bd h (j + 1) (by omega)
          have hs : many k n (j + 1) = many k n j + wordsOf k (j + 1) := by rw [many, if_pos hm]
          have Hs := Lib.hid hs
          clear hs hm
          generalize hX : many k n j = X at *
          have HX := Lib.hid hX
          clear hX
          go_wp2_with fail
          refine (ringWords_ok k (j + 1) hf _).mono ?_
          rintro e w3 ⟨rfl, hb3⟩
          generalize wordsOf k (j + 1) = v at *
          obtain ⟨hv0, hv1⟩ := hwd
          go_wp2
          go_roundw
          case rel => exact ⟨j + 1, by omega, by go_num, by rw [Hs.out], by rw [Hs.out]; omega, by rw [Hs.out]; simp; omega, chain hb3 hbr⟩
          case measure => simp [intOf]; omega
        · have hm' : ((n : Int) % ((j : Int) + 1) == 0) = false := by rw [beq_eq_false_iff_ne, mod_cast2]; omega
          have hs : many k n (j + 1) = many k n j := by rw [many, if_neg hm]
          have Hs := Lib.hid hs
          clear hs hm
          generalize hX : many k n j = X at *
          have HX := Lib.hid hX
          clear hX
          go_wp2
          go_roundw
          case rel => exact ⟨j + 1, by omega, by go_num, by rw [Hs.out], by rw [Hs.out]; omega, by rw [Hs.out]; simp; omega, hbr⟩
          case measure => simp [intOf]; omega
      · obtain rfl : j = n := by omega
        have hl := Hlaw.out
        generalize hX : many k j j = X at *
        have hl : X = R := hl
        subst hl
        clear hX
        go_wp2
        go_ret
        exact ⟨by simp, hbr⟩
  · have hE' : (E == 0) = false := by simpa using hE
    have hE2 : (E != 0) = true := by simpa using hE
    have HC := Lib.hid hc
    clear hc
    go_enter Try.func13, Try.ntmps13
    go_wp2_with fail
    refine (rings_any _).mono ?_
    rintro e w1 ⟨rfl, hb1⟩
    go_wp2_with fail
    refine (ringRings_no k0 n0 E hE HC.out _).mono ?_
    rintro e w2 ⟨rfl, rfl⟩
    go_wp2
    go_ret
    exact ⟨rfl, hb1⟩

end Go.Proofs.Ytndnglaohjbapaa
