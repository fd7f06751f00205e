/- FrontBack's walk: decoding inverts encoding, and a byte that has just occurred has index 0. -/
import Derived.Test.YtccbfhaoepomnaaFrontLaws
namespace Go.Proofs.Ytccbfhaoepomnaa
open Go.RowKit
set_option linter.unusedVariables false

set_option maxHeartbeats 1000000 in
theorem frontBack_walk (s : ByteArray) (hs0 : s.size ≤ 140737488351232) (w : World) :
    Calls Try.prog 5 #[.string s] w fun e w' => e = .returned (.bool true) ∧ Below w.heap.size w w' := by
  by_cases hs : s.size ≤ 200
  · have H1 := Lib.hid (frontPut_ok s hs)
    have H2 := Lib.hid (fun A c B0 w h hB0 => frontGet_back s hs A c B0 w h hB0)
    have hz := enc_zero s.data.toList
    have hEl := encF_length shelf0 s.data.toList
    generalize encF shelf0 s.data.toList = E at *
    have Hz := Lib.hid hz
    have HEl := Lib.hid hEl
    clear hz hEl
    go_enter Try.func5, Try.ntmps5
    go_wp2_with fail
    refine (fronts_any _).mono ?_
    rintro e w1 ⟨rfl, hb1⟩
    go_wp2_with fail
    refine (H1.out _).mono ?_
    rintro e w2 ⟨A, c, rfl, hr2, hb2, hc2⟩
    go_wp2_with fail
    refine (H2.out A c _ _ hr2 (Nat.le_refl _)).mono ?_
    rintro e w3 ⟨rfl, hb3⟩
    have hr3 := hr2.after hb3
    have hbw := chain hb3 (chain hb2 hb1)
    clear hr2 hb1 hb2 hb3
    go_wp2
    go_loopw [7] (fun i wr => ∃ k : Nat, 1 ≤ k ∧ (k ≤ s.size ∨ k = 1) ∧ i = .int .i64 k ∧ Below w.heap.size w wr ∧ Reads wr w3.heap.size A s.size 1 (E.flatMap cInt)) (fun i _ => s.size - (intOf i).toNat)
    case atStart => exact ⟨1, by omega, by omega, rfl, hbw, hr3⟩
    case round =>
      clear hbw hr3
      obtain ⟨k, hk1, hk2, rfl, hbr, hr⟩ := hrel
      by_cases hlt : k < s.size
      · obtain ⟨b, o, rfl, hbB, hc⟩ := hr.2 (by omega)
        have c0 := hc (k * 1 + 0) (by rw [flat_length cInt 1 cInt_len, HEl.out]; show k * 1 + 0 < s.size * 1; omega)
        rw [flat_getD cInt 1 cInt_len 0 E k _ (by rw [HEl.out]; exact hlt) (by omega)] at c0
        simp only [cInt, List.getD_cons_zero, Nat.mul_one, Nat.add_zero] at c0
        obtain ⟨m, hm⟩ : ∃ m, k - 1 = m := ⟨_, rfl⟩
        have hms : m < s.size := by omega
        have hz := Hz.out k (by omega) hlt
        rw [hm, getD_bytes s k hlt, getD_bytes s m hms] at hz
        have Hz2 := Lib.hid hz
        have i1 : IntKind.i64.wrap ((k : Int) - 1) = (m : Int) := by rw [IntKind.wrap_i64]; omega
        have i2 : (k : Int) - 1 = (m : Int) := by omega
        have hms' : (m : Int) < s.size := by omega
        clear hz hc hm
        generalize E.getD k 0 = x at *
        by_cases hx : x = 0
        · have heq := Hz2.out.1 hx
          have q1 : (x == 0) = true := by simpa using hx
          have q2 : ((s[k].toNat : Int) == (s[m].toNat : Int)) = true := by rw [heq]; simp
          have Hx := Lib.hid hx
          clear hx heq
          go_wp2
          go_quiet (fail)
          go_wp2
          go_roundw
          case rel => exact ⟨k + 1, by omega, by omega, by go_num, below_drewN hbr _, hr.drewN _⟩
          case measure => simp [intOf]; omega
        · have heq := mt Hz2.out.2 hx
          have q1 : (x == 0) = false := by simpa using hx
          have q2 : ((s[k].toNat : Int) == (s[m].toNat : Int)) = false := by rw [beq_eq_false_iff_ne]; intro h; exact heq (UInt8.toNat_inj.1 (by omega))
          have Hx := Lib.hid hx
          clear hx heq
          go_wp2
          go_quiet (fail)
          go_wp2
          go_roundw
          case rel => exact ⟨k + 1, by omega, by omega, by go_num, below_drewN hbr _, hr.drewN _⟩
          case measure => simp [intOf]; omega
      · have q1 : (s.toList == s.toList) = true := by simp
        have q2 : ((s.size : Int) == (s.size : Int)) = true := by simp
        go_wp2
        go_ret
        exact ⟨rfl, hbr⟩
  · go_enter Try.func5, Try.ntmps5
    go_wp2_with fail
    refine (fronts_any _).mono ?_
    rintro e w1 ⟨rfl, hb1⟩
    go_wp2_with fail
    refine (frontPut_no s (by omega) _).mono ?_
    rintro e w2 ⟨rfl, rfl⟩
    go_wp2
    go_ret
    exact ⟨rfl, hb1⟩

end Go.Proofs.Ytccbfhaoepomnaa
