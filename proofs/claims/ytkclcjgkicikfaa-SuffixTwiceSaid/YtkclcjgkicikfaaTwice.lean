/- The walk of suffix.Twice. -/
import Derived.Test.YtkclcjgkicikfaaEnds
import Derived.Test.YtkclcjgkicikfaaTwiceP
import Derived.IntWalk
import Derived.BigQuiet
namespace Go.Proofs.Ytkclcjgkicikfaa
open Go.RowKit
set_option linter.unusedVariables false

/-- What Twice tells. -/
def ToldTwice (s : ByteArray) (w : World) (e : Ending) (w' : World) : Prop :=
  ∃ t : ByteArray, e = .returned (.tuple #[.string t, .int .i64 0]) ∧ IsTwice s.data.toList t.data.toList ∧ t.size ≤ s.size ∧ RowKit.Below w.heap.size w w'
theorem ext_take (s : ByteArray) (a n : Nat) : (s.extract a (a + n)).data.toList = (s.data.toList.drop a).take n := by
  rw [ByteArray.data_extract, Array.toList_extract, List.extract_eq_take_drop, Nat.add_sub_cancel_left]

set_option maxRecDepth 100000 in
set_option maxHeartbeats 2000000 in
theorem twice_ok (s : ByteArray) (hs : s.size ≤ 200) (w : World) : Calls Try.prog 4 #[.string s] w (ToldTwice s w) := by
  have H1 := Lib.hid (order_ok s hs)
  have H2 := Lib.hid (common_ok s hs)
  have hO := sOrd_is s.data.toList
  have HO := Lib.hid hO
  clear hO
  go_enter Try.func4, Try.ntmps4
  go_wp2_with fail
  refine (H1.out _).mono ?_
  rintro e w1 ⟨g0, rfl, hg0, hi0, hb1⟩
  go_wp2_with fail
  refine (H2.out _).mono ?_
  rintro e w2 ⟨g1, rfl, hg1, hi1, hb2⟩
  have hi0 := hi0.below hb2 hi0.1
  have hb2 := chain hb2 hb1
  clear hb1 H1 H2
  go_wp2
  go_loopw [8, 9, 10, 26] (fun tv _ _ iv wr => ∃ (k : Nat) (t : ByteArray), k ≤ s.size ∧ iv = .int .i64 k ∧ tv = .string t ∧ t.size ≤ s.size ∧ Hid (BestT s.data.toList (sOrd s.data.toList) k t.data.toList) ∧ IntsAt wr g1 (lcpsI s.data.toList) ∧ IntsAt wr g0 (natsI (sOrd s.data.toList)) ∧ Below w.heap.size w wr) (fun _ _ _ iv _ => s.size - (intOf iv).toNat)
  case atStart => exact ⟨0, ⟨#[]⟩, Nat.zero_le _, rfl, rfl, Nat.zero_le _, Lib.hid (BestT.start _ _), hi1, hi0, hb2⟩
  case round =>
    clear hi1 hi0 hb2
    obtain ⟨k, t, hk, rfl, rfl, ht, Hb, hi1, hi0, hb2⟩ := hrel
    by_cases hlt : k < s.size
    · have c0 := (hi1.2 k (by rw [lcpsI_len]; exact hlt)).1
      rw [lcpsI_getD (show k < s.data.toList.length from hlt)] at c0
      have c1 := (hi0.2 k (by rw [natsI_len, HO.out.len]; exact hlt)).1
      rw [natsI_getD _ _ (by rw [HO.out.len]; exact hlt)] at c1
      have hat := HO.out.at_lt (show k < s.data.toList.length from hlt)
      have hat : (sOrd s.data.toList).getD k 0 < s.size := hat
      have hle := lcpR_le s.data.toList (sOrd s.data.toList) k
      rw [show s.data.toList.length = s.size from rfl] at hle
      have htl : t.data.toList.length = t.size := rfl
      by_cases hbig : t.size < lcpR s.data.toList (sOrd s.data.toList) k
      case' pos =>
        have hnew := Hb.out.new (by rw [htl]; exact hbig)
        rw [← ext_take] at hnew
        have Hnew := Lib.hid hnew
        clear hnew
        generalize lcpR s.data.toList (sOrd s.data.toList) k = x at *
        generalize (sOrd s.data.toList).getD k 0 = a at *
        have q1 : decide ((t.size : Int) < (x : Int)) = true := decide_eq_true (by omega)
        have q1' : decide (t.size < x) = true := decide_eq_true hbig
        obtain ⟨z, hz⟩ : ∃ z, z = a + x := ⟨_, rfl⟩
        have hsz : (s.extract a (a + x)).size ≤ s.size := by rw [ByteArray.size_extract]; omega
        rw [← hz] at Hnew hsz
        have e1 : IntKind.i64.wrap ((a : Int) + (x : Int)) = (z : Int) := by rw [IntKind.wrap_i64]; omega
        have hax : z ≤ s.size := by omega
        have hax' : (z : Int) ≤ (s.size : Int) := by omega
        have hle' : a ≤ z := by omega
        have hle2 : (a : Int) ≤ (z : Int) := by omega
        have hk' : (k : Int) < (s.size : Int) := by omega
        clear hz hle htl hat
        go_wp2
        go_quiet (fail)
        go_wp2
        go_roundw
        case rel => exact ⟨k + 1, s.extract a z, by omega, by go_num, rfl, hsz, Lib.hid Hnew.out, hi1.drewQ _, hi0.drewQ _, ⟨hb2.os, hb2.tape, hb2.output, hb2.size, hb2.block⟩⟩
        case measure => simp [intOf]; omega
      case' neg =>
        have hnew := Hb.out.stay (by rw [htl]; exact hbig)
        have Hnew := Lib.hid hnew
        clear hnew htl
        generalize lcpR s.data.toList (sOrd s.data.toList) k = x at *
        have q1 : decide ((t.size : Int) < (x : Int)) = false := decide_eq_false (by omega)
        have q1' : decide (t.size < x) = false := decide_eq_false hbig
        go_wp2
        go_roundw
        case rel => exact ⟨k + 1, t, by omega, by go_num, rfl, ht, Lib.hid Hnew.out, hi1, hi0, hb2⟩
        case measure => simp [intOf]; omega
    · obtain rfl : k = s.size := by omega
      have hfin := Hb.out.twice HO.out
      go_wp2
      go_ret2
      exact ⟨t, rfl, hfin, ht, hb2⟩
theorem twice_no (s : ByteArray) (hs : 200 < s.size) (w : World) : Calls Try.prog 4 #[.string s] w fun e w' => e = .returned (.tuple #[.string ⟨#[]⟩, .int .i64 2]) ∧ RowKit.Below w.heap.size w w' := by
  have H2 := Lib.hid (order_no s hs)
  go_enter Try.func4, Try.ntmps4
  go_wp2_with fail
  refine (H2.out _).mono ?_
  rintro e w4 ⟨rfl, hb4⟩
  go_wp2
  go_ret2
  exact ⟨rfl, hb4⟩
end Go.Proofs.Ytkclcjgkicikfaa
