/- The walk of lyndon.Least. -/
import Derived.Test.YtmephgemokngnaaLyndonLaws
import Derived.Test.YtmephgemokngnaaTurnsP
namespace Go.Proofs.Ytmephgemokngnaa
open Go.RowKit
set_option linter.unusedVariables false

theorem rot_ext (s : ByteArray) (k : Nat) : (s.extract k s.size ++ s.extract 0 k).data.toList = rot k s.data.toList := by
  have h : (s.extract k s.size ++ s.extract 0 k).data.toList = (s.extract k s.size).data.toList ++ (s.extract 0 k).data.toList := by simp
  rw [h, Lib.extract_data, Lib.extract_data, List.drop_zero, Nat.sub_zero, List.take_of_length_le (l := s.data.toList.drop k) (by rw [List.length_drop]; exact Nat.le_refl _)]
  rfl
theorem rot_str (s : ByteArray) (k : Nat) : s.extract k s.size ++ s.extract 0 k = tx (rot k s.data.toList) := ba_ext (by rw [rot_ext, tx_list])
theorem size_back (s : ByteArray) (k : Nat) : (s.extract k s.size).size ≤ s.size := by simp
theorem size_front (s : ByteArray) (k : Nat) : (s.extract 0 k).size ≤ s.size := by simp; omega

/-- Least's answer. -/
def ToldLeast (s : List UInt8) (w : World) (e : Ending) (w' : World) : Prop := Below w.heap.size w w' ∧ ∃ b, LeastAt s b ∧ e = .returned (.tuple #[.string (tx (rot b s)), .int .i64 (b : Int), .int .i64 0])

set_option maxHeartbeats 2000000 in
theorem least_ok (s : ByteArray) (hs : s.size ≤ 200) (h0 : 0 < s.size) (w : World) : Calls Try.prog 17 #[.string s] w (ToldLeast s.data.toList w) := by
  have hsl : s.data.toList.length = s.size := rfl
  have HL := Lib.hid hsl
  have hcmp : ∀ k b, llt (rot k s.data.toList) (rot b s.data.toList) = Op.bytesLess (s.extract k s.size ++ s.extract 0 k).toList (s.extract b s.size ++ s.extract 0 b).toList := fun k b => by
    rw [bless_eq, ByteArray.toList_eq, ByteArray.toList_eq, rot_ext, rot_ext]
  have Hcmp := Lib.hid hcmp
  have hsb := size_back s
  have hsf := size_front s
  clear hsl hcmp
  go_enter Try.func17, Try.ntmps17
  go_wp2_with fail
  refine (wordCheck_ok s hs _).mono ?_
  rintro e w1 ⟨rfl, rfl⟩
  go_wp2
  go_loopw [6, 7] (fun bv kv wr => ∃ b k : Nat, b < k ∧ k ≤ s.size ∧ bv = .int .i64 b ∧ kv = .int .i64 k ∧ Hid (∀ j, j < k → lle (rot b s.data.toList) (rot j s.data.toList)) ∧ Below w.heap.size w wr) (fun _ kv _ => s.size - (intOf kv).toNat)
  case atStart =>
    have hz : ∀ j, j < 1 → lle (rot 0 s.data.toList) (rot j s.data.toList) := fun j hj => by
      have e : j = 0 := by omega
      rw [e]; exact lle_refl _
    exact ⟨0, 1, by omega, by omega, rfl, rfl, Lib.hid hz, Below.refl _ _⟩
  case round =>
    obtain ⟨b, k, hbk, hks, rfl, rfl, Hm, hbr⟩ := hrel
    have z1 := hsb k
    have z2 := hsf k
    have z3 := hsb b
    have z4 := hsf b
    have hk' : (k : Int) ≤ s.size := by omega
    have hb' : (b : Int) ≤ s.size := by omega
    by_cases hlt : k < s.size
    · have q1 : decide ((k : Int) < s.size) = true := decide_eq_true (by omega)
      by_cases hl : llt (rot k s.data.toList) (rot b s.data.toList) = true
      · have q2 : Op.bytesLess (s.extract k s.size ++ s.extract 0 k).toList (s.extract b s.size ++ s.extract 0 b).toList = true := by rw [← Hcmp.out]; exact hl
        have Hl := Lib.hid hl
        clear hl hsb hsf
        go_wp2
        go_quiet (fail)
        go_wp2
        go_roundw
        case rel =>
          refine ⟨k, k + 1, by omega, by omega, rfl, by go_num, Lib.hid fun j hj => ?_, below_drewN hbr _⟩
          by_cases e : j = k
          · rw [e]; exact lle_refl _
          · exact lle_trans (lle_of_lt Hl.out) (Hm.out j (by omega))
        case measure => simp only [intOf]; omega
      · have q2 : Op.bytesLess (s.extract k s.size ++ s.extract 0 k).toList (s.extract b s.size ++ s.extract 0 b).toList = false := by rw [← Hcmp.out]; simpa using hl
        have Hl := Lib.hid hl
        clear hl hsb hsf
        go_wp2
        go_quiet (fail)
        go_wp2
        go_roundw
        case rel =>
          refine ⟨b, k + 1, by omega, by omega, rfl, by go_num, Lib.hid fun j hj => ?_, below_drewN hbr _⟩
          by_cases e : j = k
          · rw [e]; unfold lle; simpa using Hl.out
          · exact Hm.out j (by omega)
        case measure => simp only [intOf]; omega
    · obtain rfl : k = s.size := by omega
      clear hsb hsf
      go_wp2
      go_quiet (fail)
      go_wp2
      go_ret3
      refine ⟨below_drewN hbr _, b, ⟨by rw [HL.out]; exact hbk, fun j hj => Hm.out j (by rw [HL.out] at hj; exact hj)⟩, ?_⟩
      rw [← rot_str]
      rfl

set_option maxHeartbeats 1000000 in
theorem least_empty (s : ByteArray) (h0 : s.size = 0) (w : World) : Calls Try.prog 17 #[.string s] w fun e w' => Below w.heap.size w w' ∧ e = .returned (.tuple #[.string ⟨#[]⟩, .int .i64 0, .int .i64 0]) := by
  obtain rfl : s = ⟨#[]⟩ := ba_ext (List.eq_nil_of_length_eq_zero h0)
  go_enter Try.func17, Try.ntmps17
  go_wp2_with fail
  refine (wordCheck_ok _ (by decide) _).mono ?_
  rintro e w1 ⟨rfl, rfl⟩
  go_wp2
  go_loopw [6, 7] (fun bv kv wr => bv = .int .i64 0 ∧ kv = .int .i64 1 ∧ Below w.heap.size w wr) (fun _ kv _ => 0)
  case atStart => exact ⟨rfl, rfl, Below.refl _ _⟩
  case round =>
    obtain ⟨rfl, rfl, hbr⟩ := hrel
    go_wp2
    go_quiet (fail)
    go_wp2
    go_ret3
    exact ⟨below_drewN hbr _, rfl⟩

set_option maxHeartbeats 400000 in
theorem least_no (s : ByteArray) (hs : 200 < s.size) (w : World) : Calls Try.prog 17 #[.string s] w fun e w' => e = .returned (.tuple #[.string ⟨#[]⟩, .int .i64 0, .int .i64 2]) ∧ w = w' := by
  go_enter Try.func17, Try.ntmps17
  go_wp2_with fail
  refine (wordCheck_no s hs _).mono ?_
  rintro e w1 ⟨rfl, rfl⟩
  go_wp2
  go_ret3
  exact ⟨rfl, rfl⟩

end Go.Proofs.Ytmephgemokngnaa
