/- The walks of same.Long, same.Within and same.Places. -/
import Derived.Test.YtbcendaiakeabaaSameTable
import Derived.Test.YtbcendaiakeabaaStruct
import Derived.Test.YtbcendaiakeabaaApart
import Derived.Deep.DeepMust
namespace Go.Proofs.Ytbcendaiakeabaa
open Go.RowKit
set_option linter.unusedVariables false

set_option maxHeartbeats 1000000 in
theorem long_ok (a b : ByteArray) (ha : a.size ≤ 200) (hb : b.size ≤ 200) (w : World) :
    Calls Try.prog 14 #[.string a, .string b] w fun e w' => e = .returned (.tuple #[.int .i64 (lcs a.data.toList b.data.toList : Nat), .int .i64 0]) ∧ Below w.heap.size w w' := by
  go_enter Try.func14, Try.ntmps14
  go_wp2_with fail
  refine (sameCheck_ok a b ha hb _).mono ?_
  rintro e w1 ⟨rfl, rfl⟩
  go_wp2_with fail
  refine (table_ok a b ha hb _).mono ?_
  rintro e w1 ⟨rfl, hg, hb1⟩
  have r0 := hg.row 0 (Nat.zero_le _)
  have c0 := hg.cell 0 0 (Nat.zero_le _) (Nat.zero_le _)
  have e0 : pl a.data.toList b.data.toList 0 0 = lcs a.data.toList b.data.toList := rfl
  rw [e0] at c0
  clear hg e0
  go_wp2
  go_ret2
  exact ⟨rfl, hb1⟩

set_option maxHeartbeats 400000 in
theorem long_no (a b : ByteArray) (h : 200 < a.size ∨ 200 < b.size) (w : World) :
    Calls Try.prog 14 #[.string a, .string b] w fun e w' => e = .returned (.tuple #[.int .i64 0, .int .i64 2]) ∧ w = w' := by
  go_enter Try.func14, Try.ntmps14
  go_wp2_with fail
  refine (sameCheck_no a b h _).mono ?_
  rintro e w1 ⟨rfl, rfl⟩
  go_wp2
  go_ret2
  exact ⟨rfl, rfl⟩

set_option maxHeartbeats 1000000 in
theorem sameWithin_ok (a b : ByteArray) (ha : a.size ≤ 200) (hb : b.size ≤ 200) (w : World) :
    Calls Try.prog 21 #[.string a, .string b] w fun e w' => e = .returned (.tuple #[.bool (decide (a.data.toList.Sublist b.data.toList)), .int .i64 0]) ∧ Below w.heap.size w w' := by
  go_enter Try.func21, Try.ntmps21
  go_wp2_with fail
  refine (sameCheck_ok a b ha hb _).mono ?_
  rintro e w1 ⟨rfl, rfl⟩
  go_wp2
  go_loopw [7, 8] (fun iv kv wr => ∃ i k : Nat, i ≤ a.size ∧ k ≤ b.size ∧ iv = .int .i64 i ∧ kv = .int .i64 k ∧ Hid ((a.data.toList.drop i).Sublist (b.data.toList.drop k) ↔ a.data.toList.Sublist b.data.toList) ∧ Below w.heap.size w wr) (fun _ kv _ => b.size - (intOf kv).toNat)
  case atStart => exact ⟨0, 0, Nat.zero_le _, Nat.zero_le _, rfl, rfl, Lib.hid Iff.rfl, Below.refl _ _⟩
  case round =>
    obtain ⟨i, k, hi, hk, rfl, rfl, Hs, hbr⟩ := hrel
    by_cases hkb : k < b.size
    · by_cases hia : i < a.size
      · have hst := sub_step a[i] b[k] (a.data.toList.drop (i + 1)) (b.data.toList.drop (k + 1))
        have d1 := drop_getD a.data.toList i 0 hia
        have d2 := drop_getD b.data.toList k 0 hkb
        rw [getD_bytes a i hia] at d1
        rw [getD_bytes b k hkb] at d2
        have hd1 := d1
        rw [← d2] at hst
        have hia' : (i : Int) < a.size := by omega
        have hkb' : (k : Int) < b.size := by omega
        have Hst := Lib.hid hst
        have Hd1 := Lib.hid d1
        clear hst d1 d2 hd1
        by_cases heq : a[i] = b[k]
        · have q1 : ((a[i].toNat : Int) == (b[k].toNat : Int)) = true := by rw [heq]; simp
          have Heq := Lib.hid heq
          clear heq
          go_wp2
          go_quiet (fail)
          go_wp2
          go_roundw
          case rel => exact ⟨i + 1, k + 1, by omega, by omega, by go_num, by go_num, Lib.hid (by have := Hst.out; rw [if_pos Heq.out, ← Hd1.out] at this; exact this.symm.trans Hs.out), below_drewN hbr _⟩
          case measure => simp [intOf]; omega
        · have q1 : ((a[i].toNat : Int) == (b[k].toNat : Int)) = false := by rw [beq_eq_false_iff_ne]; intro h; exact heq (UInt8.toNat_inj.1 (by omega))
          have Heq := Lib.hid heq
          clear heq
          go_wp2
          go_quiet (fail)
          go_wp2
          go_roundw
          case rel => exact ⟨i, k + 1, by omega, by omega, rfl, by go_num, Lib.hid (by
            have := Hst.out; rw [if_neg Heq.out, ← Hd1.out] at this
            exact this.symm.trans Hs.out), below_drewN hbr _⟩
          case measure => simp [intOf]; omega
      · obtain rfl : i = a.size := by omega
        have hd : decide (a.data.toList.Sublist b.data.toList) = true := decide_eq_true (Hs.out.1 (by rw [List.drop_of_length_le (Nat.le_refl a.size)]; exact List.nil_sublist _))
        have Hd := Lib.hid hd
        have q1 : ((a.size : Int) == (a.size : Int)) = true := by simp
        clear hd
        go_wp2
        go_ret2
        exact ⟨by rw [Hd.out]; rfl, hbr⟩
    · obtain rfl : k = b.size := by omega
      have hd : decide (a.data.toList.Sublist b.data.toList) = ((i : Int) == (a.size : Int)) := by
        have h := Hs.out
        rw [List.drop_of_length_le (l := b.data.toList) (Nat.le_refl b.size), List.sublist_nil] at h
        rw [Bool.eq_iff_iff, decide_eq_true_iff, ← h, beq_iff_eq, List.drop_eq_nil_iff]
        show a.size ≤ i ↔ _
        omega
      obtain ⟨z, hz⟩ : ∃ z, ((i : Int) == (a.size : Int)) = z := ⟨_, rfl⟩
      have Hd := Lib.hid hd
      have Hz := Lib.hid hz
      clear hd
      go_wp2
      go_ret2
      exact ⟨by rw [Hd.out, Hz.out]; rfl, hbr⟩

set_option maxHeartbeats 400000 in
theorem sameWithin_no (a b : ByteArray) (h : 200 < a.size ∨ 200 < b.size) (w : World) :
    Calls Try.prog 21 #[.string a, .string b] w fun e w' => e = .returned (.tuple #[.bool false, .int .i64 2]) ∧ w = w' := by
  go_enter Try.func21, Try.ntmps21
  go_wp2_with fail
  refine (sameCheck_no a b h _).mono ?_
  rintro e w1 ⟨rfl, rfl⟩
  go_wp2
  go_ret2
  exact ⟨rfl, rfl⟩

end Go.Proofs.Ytbcendaiakeabaa
