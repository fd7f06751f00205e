/- The walk of suffix.Unlike. -/
import Derived.Test.YtpaodbkdmiedfaaEnds
import Derived.Test.YtpaodbkdmiedfaaSubsP
import Derived.IntWalk

namespace Go.Proofs.Ytpaodbkdmiedfaa
open Go.RowKit
set_option linter.unusedVariables false

/-- What Unlike tells. -/
noncomputable def unlN (s : ByteArray) : Nat := unl s.data.toList (sOrd s.data.toList)
theorem unlN_many (s : ByteArray) : Many (Sub s.data.toList) (unlN s) := (sOrd_is _).unl_eq.2

set_option maxHeartbeats 2000000 in
theorem suffixUnlike_ok (s : ByteArray) (hs : s.size ≤ 200) (w : World) : Calls Try.prog 30 #[.string s] w fun e w' => e = .returned (.tuple #[.int .i64 (unlN s : Nat), .int .i64 0]) ∧ RowKit.Below w.heap.size w w' := by
  have H2 := Lib.hid (common_ok s hs)
  have hu := (sOrd_is s.data.toList).unl_eq.1
  rw [show s.data.toList.length = s.size from rfl] at hu
  obtain ⟨T, hT⟩ : ∃ T, T = s.size * (s.size + 1) / 2 := ⟨_, rfl⟩
  have hT1 : T ≤ 20100 := by
    have h1 : s.size * (s.size + 1) ≤ 200 * 201 := Nat.mul_le_mul hs (by omega)
    omega
  rw [← hT] at hu
  have Hu := Lib.hid hu
  have HT := Lib.hid hT
  have e0 : (s.size : Int) * ((s.size : Int) + 1) = ((s.size * (s.size + 1) : Nat) : Int) := by simp
  have e1 : s.size * (s.size + 1) ≤ 200 * 201 := Nat.mul_le_mul hs (by omega)
  have e2 : IntKind.i64.wrap ((s.size : Int) * ((s.size : Int) + 1)) = (s.size : Int) * ((s.size : Int) + 1) := by rw [e0]; exact IntWalk.i64_in _ (by omega)
  have e3 : ((s.size : Int) * ((s.size : Int) + 1)).tdiv 2 = (T : Int) := by
    rw [e0, hT]
    generalize s.size * (s.size + 1) = y
    rw [Int.tdiv_eq_ediv_of_nonneg (by omega)]; omega
  have e3' : ((s.size : Int) * ((s.size : Int) + 1)) / 2 = (T : Int) := by
    rw [e0, hT]
    generalize s.size * (s.size + 1) = y
    omega
  clear hu hT e0 e1
  go_enter Try.func30, Try.ntmps30
  go_wp2_with fail
  refine (H2.out _).mono ?_
  rintro e w4 ⟨g', rfl, hg', hi4, hb4⟩
  go_wp2
  go_loopw [6, 8, 26] (fun nv _ iv wr => ∃ k : Nat, k ≤ s.size ∧ iv = .int .i64 k ∧ nv = .int .i64 ((T : Int) - ((sumR (lcpR s.data.toList (sOrd s.data.toList)) k : Nat) : Int)) ∧ wr = w4) (fun _ _ iv _ => s.size - (intOf iv).toNat)
  case atStart => exact ⟨0, Nat.zero_le _, rfl, by simp [sumR], rfl⟩
  case round =>
    obtain ⟨k, hk, rfl, rfl, rfl⟩ := hrel
    by_cases hlt : k < s.size
    · have c0 := (hi4.2 k (by rw [lcpsI_len]; exact hlt)).1
      rw [lcpsI_getD (show k < s.data.toList.length from hlt)] at c0
      have hle := lcpR_le s.data.toList (sOrd s.data.toList) k
      have hL : lcpR s.data.toList (sOrd s.data.toList) k ≤ s.size := Nat.le_trans hle (Nat.sub_le _ _)
      have hS : sumR (lcpR s.data.toList (sOrd s.data.toList)) k ≤ k * 200 := sumR_bound (fun r => Nat.le_trans (Nat.le_trans (lcpR_le s.data.toList (sOrd s.data.toList) r) (Nat.sub_le _ _)) (show s.size ≤ 200 from hs)) k
      have hn : sumR (lcpR s.data.toList (sOrd s.data.toList)) (k + 1) = sumR (lcpR s.data.toList (sOrd s.data.toList)) k + lcpR s.data.toList (sOrd s.data.toList) k := rfl
      have Hn := Lib.hid hn
      clear hn hle
      generalize sumR (lcpR s.data.toList (sOrd s.data.toList)) k = S at *
      generalize lcpR s.data.toList (sOrd s.data.toList) k = x at *
      clear e2 e3 e3'
      go_wp2
      go_roundw
      case rel => exact ⟨k + 1, by omega, by go_num, by rw [Hn.out]; go_num, trivial⟩
      case measure => simp [intOf]; omega
    · obtain rfl : k = s.size := by omega
      have h1 : ((T : Int) - ((sumR (lcpR s.data.toList (sOrd s.data.toList)) s.size : Nat) : Int)) = ((unlN s : Nat) : Int) := by
        have := Hu.out
        unfold unlN
        omega
      rw [h1]
      clear e2 e3 e3'
      go_wp2
      go_ret2
      exact ⟨rfl, hb4⟩
theorem suffixUnlike_no (s : ByteArray) (hs : 200 < s.size) (w : World) : Calls Try.prog 30 #[.string s] w fun e w' => e = .returned (.tuple #[.int .i64 0, .int .i64 2]) ∧ RowKit.Below w.heap.size w w' := by
  have H2 := Lib.hid (common_no s hs)
  go_enter Try.func30, Try.ntmps30
  go_wp2_with fail
  refine (H2.out _).mono ?_
  rintro e w4 ⟨rfl, hb4⟩
  go_wp2
  go_ret2
  exact ⟨rfl, hb4⟩
end Go.Proofs.Ytpaodbkdmiedfaa
