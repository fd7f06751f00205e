/- SumBurst's walk: a burst of at most thirty-two bits is told by the checksum. -/
import Derived.Test.YtndnglaohjbapaaSumWalk
import Derived.Test.YtndnglaohjbapaaSumLaw
import Derived.Test.YtndnglaohjbapaaKeep
import Derived.RegionTactic
import Derived.ChangeAlike
import Derived.Deep.RegionHeld3
import Derived.OpenShut
namespace Go.Proofs.Ytndnglaohjbapaa
open Go.RowKit
set_option linter.unusedVariables false

theorem bit_at (B k : Nat) (hB : B < 4294967296) : bits .and .u32 ((B : Int) / 2 ^ k) 1 = ((B / 2 ^ k % 2 : Nat) : Int) := by
  have h1 : ((B : Int) / 2 ^ k) = ((B / 2 ^ k : Nat) : Int) := by simp
  have h2 : B / 2 ^ k < 4294967296 := Nat.lt_of_le_of_lt (Nat.div_le_self _ _) hB
  rw [h1]
  have := u32_and_nat (B / 2 ^ k) 1 h2 (by decide)
  rw [nat_mask1] at this
  exact this
theorem mod_zero_bit (B k : Nat) (h : B / 2 ^ k % 2 = 0) : B % 2 ^ (k + 1) = B % 2 ^ k := by
  rw [Nat.pow_succ, Nat.mod_mul, h]; simp
theorem mod_one_bit (B k : Nat) (h : B / 2 ^ k % 2 = 1) : B % 2 ^ (k + 1) = B % 2 ^ k ^^^ 2 ^ k := by
  rw [Nat.pow_succ, Nat.mod_mul, h, Nat.mul_one]
  have hlt := Nat.mod_lt B (Nat.two_pow_pos k)
  have := Nat.two_pow_add_eq_or_of_lt hlt 1
  rw [Nat.mul_one] at this
  rw [Nat.add_comm, this]
  apply Nat.eq_of_testBit_eq
  intro i
  simp only [Nat.testBit_xor, Nat.testBit_or, Nat.testBit_two_pow]
  by_cases hi : k = i
  · subst hi
    rw [Nat.testBit_lt_two_pow hlt]; simp
  · simp [hi]

set_option maxHeartbeats 400000 in
theorem sumBurst_walk (a : ByteArray) (at0 : Int) (bits0 : Int) (ha : a.size ≤ 140737488351232) (hw1 : (Lit.int .i64 at0).wf = true) (hw2 : (Lit.int .u32 bits0).wf = true) (w : World) :
    Calls Try.prog 4 #[.string a, .int .i64 at0, .int .u32 bits0] w fun e w' => e = .returned (.bool true) ∧ Below w.heap.size w w' := by
  have hcv := fun w s => run_bytes_of_string (P := Try.prog) w 9 23 5 s Try.underlying9 Try.underlying23 Try.underlying5
  obtain ⟨B, rfl, hB⟩ : ∃ B : Nat, bits0 = (B : Int) ∧ B < 4294967296 := by
    have h := bounds_u32 hw2
    exact ⟨bits0.toNat, by omega, by omega⟩
  have hcat : a.size + (bytes4 (sumOf a.data.toList)).length ≤ 9223372036854775807 := by rw [bytes4_length]; omega
  go_enter Try.func4, Try.ntmps4
  go_wp2_with fail
  refine (sums_any _).mono ?_
  rintro e w1 ⟨rfl, hb1⟩
  go_wp2_with fail
  refine (sumOf_any _ _ (by unfold maxLen; omega)).mono ?_
  rintro e w2 ⟨rfl, hb2⟩
  go_wp2_with fail
  refine (sumBytes_any _ (sumOf_lt _) _).mono ?_
  rintro e w3 ⟨rfl, hb3⟩
  go_wp2_with fail
  generalize hT : (a ++ _ : ByteArray) = T
  have hTl : T.data.toList = a.data.toList ++ bytes4 (sumOf a.data.toList) := by
    rw [← hT]
    simp
  have hTs : T.size = a.size + 4 := by
    have : T.data.toList.length = a.size + 4 := by rw [hTl, List.length_append, bytes4_length]; rfl
    exact this
  have hright : rightOf T.data.toList = true := by rw [hTl]; exact right_made _
  have hR : ∀ w, Calls Try.prog 18 #[.string T] w fun e w' => e = .returned (.bool true) ∧ Below w.heap.size w w' := fun w =>
    (sumRight_any T w (by unfold maxLen; omega)).mono fun e w' ⟨he, hb⟩ => ⟨by rw [he, hright], hb⟩
  refine (hR _).mono ?_
  clear hR hT
  rintro e w4 ⟨rfl, hb4⟩
  have hbw : Below w.heap.size w w4 := chain hb4 (chain hb3 (chain hb2 hb1))
  clear hb1 hb2 hb3 hb4 hcat
  have HT := Lib.hid hTl
  have HS := Lib.hid hTs
  clear hTl hTs
  by_cases hB0 : B = 0
  · subst hB0
    go_wp2
    go_ret
    exact ⟨rfl, hbw⟩
  have hB0' : ((B : Int) == 0) = false := by simp; omega
  have hsz1 : (T.size : Int) ≤ 140737488355328 := by rw [HS.out]; omega
  have hsz4 : (4 : Int) ≤ T.size := by rw [HS.out]; omega
  go_wp2_with fail
  refine (within_any at0 _ (by omega) (by omega) _).mono ?_
  rintro e w5 ⟨rfl, rfl⟩
  obtain ⟨p, hp, hpl⟩ : ∃ p : Nat, at0 % (8 * (T.size : Int) - 31) = p ∧ p + 32 ≤ 8 * T.size := by
    have h1 := Int.emod_nonneg at0 (show (8 * (T.size : Int) - 31) ≠ 0 by omega)
    have h2 := Int.emod_lt_of_pos at0 (show 0 < (8 * (T.size : Int) - 31) by omega)
    exact ⟨(at0 % (8 * (T.size : Int) - 31)).toNat, by omega, by omega⟩
  rw [hp]
  clear hp
  go_wp2
  generalize hW : World.drew _ = W
  obtain ⟨hb2, hz2, hat⟩ := bytes_at T _ (grownCap_ge _ _ _ _) _ _ _ hW
  clear hW
  generalize grownCap _ _ _ _ = cap
  have hbW : Below w.heap.size w W := hbw.trans (hb2.mono hbw.size)
  have hg := hbw.size
  generalize w4.heap.size = g at *
  clear hbw hb2 hz2
  go_loopw [9, 30] (fun _ i wr => ∃ (k : Nat) (l : List UInt8), k ≤ 32 ∧ i = .int .i64 k ∧ l.length = T.size ∧ BytesAt wr g l ∧ Below w.heap.size w wr ∧ num l = num T.data.toList ^^^ (2 ^ p * (B % 2 ^ k)))
    (fun _ i _ => 32 - (intOf i).toNat)
  case atStart => exact ⟨0, T.data.toList, Nat.zero_le _, rfl, rfl, hat, hbW, by simp [Nat.mod_one]⟩
  case round =>
    obtain ⟨k, l, hk, rfl, hl, hat', hbr, hv⟩ := hrel
    have Hv := Lib.hid hv
    have Hl := Lib.hid hl
    clear hv hl
    by_cases hlt : k < 32
    · have hpk : p + k < 8 * T.size := by omega
      obtain ⟨hck, hfk⟩ := hat'.2 ((p + k) / 8) (by rw [Hl.out]; omega)
      have hbit : bits .and .u32 ((B : Int) / 2 ^ k) 1 = ((B / 2 ^ k % 2 : Nat) : Int) := bit_at B k hB
      rcases Nat.mod_two_eq_zero_or_one (B / 2 ^ k) with hz | hz
      · have hbit' : (bits .and .u32 ((B : Int) / 2 ^ k) 1 == 1) = false := by rw [hbit, hz]; rfl
        have Hz := Lib.hid hz
        clear hbit hz
        go_wp2
        go_roundw
        case rel => exact ⟨k + 1, l, by omega, by go_num, Hl.out, hat', hbr, by rw [Hv.out, mod_zero_bit B k Hz.out]⟩
        case measure => simp [intOf]; omega
      · have hbit' : (bits .and .u32 ((B : Int) / 2 ^ k) 1 == 1) = true := by rw [hbit, hz]; rfl
        have Hz := Lib.hid hz
        clear hbit hz
        go_wp2
        go_region
        go_wp2
        go_roundw
        case rel =>
          have e1 : bits .xor .u8 ((l[(p + k) / 8]?.getD 0).toNat : Int) (2 ^ ((p + k) % 8) % 256) = ((l.getD ((p + k) / 8) 0 ^^^ UInt8.ofNat (2 ^ ((p + k) % 8))).toNat : Int) := by
            rw [← List.getD_eq_getElem?_getD]
            have h1 : (2 ^ ((p + k) % 8) : Nat) < 256 := Nat.lt_of_lt_of_le (Nat.pow_lt_pow_right (by decide) (Nat.mod_lt _ (by decide))) (by decide)
            have h2 : ((2 : Int) ^ ((p + k) % 8) % 256) = ((2 ^ ((p + k) % 8) : Nat) : Int) := by
              rw [show ((2 : Int) ^ ((p + k) % 8)) = ((2 ^ ((p + k) % 8) : Nat) : Int) from by simp]
              generalize (2 ^ ((p + k) % 8) : Nat) = q at h1
              omega
            rw [h2, u8_xor_nat _ _ (UInt8.toNat_lt _) h1, UInt8.toNat_xor, UInt8.toNat_ofNat', Nat.mod_eq_of_lt h1]
          rw [e1]
          refine ⟨k + 1, l.set ((p + k) / 8) (l.getD ((p + k) / 8) 0 ^^^ UInt8.ofNat (2 ^ ((p + k) % 8))), by omega, by go_num, by rw [List.length_set]; exact Hl.out, (hat'.set _ (by rw [Hl.out]; omega) _).drew, (hbr.setCell hg _).drew, ?_⟩
          rw [num_set _ _ _ (by rw [Hl.out]; omega), Hv.out, mod_one_bit B k Hz.out, mul_xor, ← Nat.xor_assoc]
          congr 1
          have h1 : (2 ^ ((p + k) % 8) : Nat) < 256 := Nat.lt_of_lt_of_le (Nat.pow_lt_pow_right (by decide) (Nat.mod_lt _ (by decide))) (by decide)
          rw [UInt8.toNat_ofNat', Nat.mod_eq_of_lt h1, show (256 : Nat) = 2 ^ 8 from rfl, ← Nat.pow_mul, ← Nat.pow_add, ← Nat.pow_add, Nat.div_add_mod]
        case measure => simp [intOf]; omega
    · obtain rfl : k = 32 := by omega
      have hls : (ByteArray.mk l.toArray).size ≤ maxLen := by show l.length ≤ _; rw [Hl.out, HS.out]; unfold maxLen; omega
      have hwrong : rightOf l = false := by
        refine burst_told T.data.toList l hright Hl.out p B hB hB0 hpl ?_
        rw [Hv.out, Nat.mod_eq_of_lt hB]
      have hR : ∀ w, Calls Try.prog 18 #[.string ⟨l.toArray⟩] w fun e w' => e = .returned (.bool false) ∧ Below w.heap.size w w' := fun w =>
        (sumRight_any ⟨l.toArray⟩ w hls).mono fun e w' ⟨he, hb⟩ => ⟨by rw [he]; exact congrArg (fun b => Ending.returned (.bool b)) hwrong, hb⟩
      have HR := Lib.hid hR
      clear hR
      go_wp2
      rw [run_string_of wr _ _ 5 ⟨g, 0, none⟩ T.size cap l Hl.out Try.underlying23 Try.underlying5 Try.underlying9 (fun j hj => by rw [add_zero, (hat'.2 j hj).1, List.getD_eq_getElem?_getD, List.getElem?_eq_getElem hj]; rfl)]
      go_wp2_with fail
      refine (HR.out _).mono ?_
      rintro e w5 ⟨rfl, hb5⟩
      go_wp2
      go_ret
      exact ⟨rfl, chain hb5 hbr⟩

end Go.Proofs.Ytndnglaohjbapaa
