/- WordRoot: a root is its own root, its powers yield the word, and powers of a word have the same root. -/
import Derived.Test.YtppbjomobbaeaaaWordRootP
import Derived.Test.YtppbjomobbaeaaaWordLaws
import Derived.Test.YtppbjomobbaeaaaLaidRepeat
import Derived.Test.YtppbjomobbaeaaaKeep
import Derived.Test.YtppbjomobbaeaaaGood
namespace Go.Proofs.Ytppbjomobbaeaaa
open Go.RowKit
set_option linter.unusedVariables false

theorem root_aba : rootOf (ByteArray.mk #[97, 98, 97]).data.toList = [97, 98, 97] ∧ expOf (ByteArray.mk #[97, 98, 97]).data.toList = 1 := by decide +kernel
theorem root_aba_any (w : World) : Calls Try.prog 25 #[.string ⟨#[97, 98, 97]⟩] w fun e w' => e = .returned (.tuple #[.string ⟨#[97, 98, 97]⟩, .int .i64 1, .int .i64 0]) ∧ Below w.heap.size w w' := by
  have h := root_walk ⟨#[97, 98, 97]⟩ (by decide) w
  rw [root_aba.1, root_aba.2] at h
  exact h

theorem wroot_core (s : ByteArray) (h0 : 0 < s.size) (hs : s.size ≤ 200) (n : Nat) (hn : (1 + n) * s.size ≤ 200) : ∃ (r t : ByteArray) (k p : Nat),
    (∀ w, Calls Try.prog 25 #[.string s] w fun e w' => e = .returned (.tuple #[.string r, .int .i64 (k : Int), .int .i64 0]) ∧ Below w.heap.size w w') ∧
    (∀ w, Calls Try.prog 25 #[.string r] w fun e w' => e = .returned (.tuple #[.string r, .int .i64 1, .int .i64 0]) ∧ Below w.heap.size w w') ∧
    (∀ w, Calls Try.prog 39 #[.string s, .int .i64 (1 + (n : Int))] w fun e w' => e = .returned (.string t) ∧ Below w.heap.size w w') ∧
    (∀ w, Calls Try.prog 25 #[.string t] w fun e w' => e = .returned (.tuple #[.string r, .int .i64 (p : Int), .int .i64 0]) ∧ Below w.heap.size w w') ∧
    (∀ w, Calls Try.prog 39 #[.string r, .int .i64 (k : Int)] w fun e w' => e = .returned (.string s) ∧ Below w.heap.size w w') ∧
    1 ≤ k ∧ k ≤ s.size ∧ (1 + (n : Int)) * (k : Int) = (p : Int) ∧ p ≤ 200 ∧ 0 < r.size := by
  have hsl : s.data.toList.length = s.size := rfl
  have hL : 0 < s.data.toList.length := by rw [hsl]; exact h0
  obtain ⟨e1, e2, e3⟩ := root_rep hL
  obtain ⟨q1, q2, q3, q4⟩ := root_root hL
  obtain ⟨p1, p2⟩ := root_power hL (n := 1 + n) (by omega)
  have hrd : (⟨(rootOf s.data.toList).toArray⟩ : ByteArray).data.toList = rootOf s.data.toList := rfl
  have hrs : (⟨(rootOf s.data.toList).toArray⟩ : ByteArray).size = (rootOf s.data.toList).length := by simp [ByteArray.size]
  have htd : (⟨(Lib.repeatL s.data.toList (1 + n)).toArray⟩ : ByteArray).data.toList = Lib.repeatL s.data.toList (1 + n) := rfl
  have hts : (⟨(Lib.repeatL s.data.toList (1 + n)).toArray⟩ : ByteArray).size = (1 + n) * s.size := by
    show (Lib.repeatL s.data.toList (1 + n)).toArray.size = _
    rw [List.size_toArray, Lib.repeatL_length, hsl]
  have hp : (1 + n) * expOf s.data.toList ≤ 200 := Nat.le_trans (Nat.mul_le_mul_left _ (by rw [← hsl]; exact e3)) hn
  refine ⟨⟨(rootOf s.data.toList).toArray⟩, ⟨(Lib.repeatL s.data.toList (1 + n)).toArray⟩, expOf s.data.toList, (1 + n) * expOf s.data.toList, root_walk s hs, fun w => ?_, fun w => ?_, fun w => ?_, fun w => ?_, e2, by rw [← hsl]; exact e3, by push_cast; rfl, hp, by rw [hrs]; exact q3⟩
  · have h := root_walk ⟨(rootOf s.data.toList).toArray⟩ (by rw [hrs]; omega) w
    rw [hrd, q1, q2] at h
    exact h
  · have h := repeat_any s (1 + n) w (by have := Nat.le_mul_of_pos_right (1 + n) h0; omega) (by rw [Nat.mul_comm]; omega)
    rw [show ((1 + n : Nat) : Int) = 1 + (n : Int) from by push_cast; rfl] at h
    exact h
  · have h := root_walk ⟨(Lib.repeatL s.data.toList (1 + n)).toArray⟩ (by rw [hts]; exact hn) w
    rw [htd, flat_rep, p1, p2, ← flat_rep] at h
    exact h
  · have hk : expOf s.data.toList * (rootOf s.data.toList).length = s.size := by
      have := congrArg List.length e1
      rw [flat_rep_len, hsl] at this
      exact this.symm
    have h := repeat_any ⟨(rootOf s.data.toList).toArray⟩ (expOf s.data.toList) w (by omega) (by rw [hrs, Nat.mul_comm, hk]; omega)
    rw [hrd, flat_rep, ← e1] at h
    exact h

set_option maxRecDepth 100000 in
set_option maxHeartbeats 4000000 in
theorem wordRoot_walk (s : ByteArray) (n0 : Int) (hs0 : s.size ≤ 140737488351232) (hn0 : (Lit.int .i64 n0).wf = true) {w : World} :
    Calls Try.prog 11 #[.string s, .int .i64 n0] w fun e w' => e = .returned (.bool true) ∧ Below w.heap.size w w' := by
  clear hn0
  by_cases hs : s.size ≤ 200
  case neg =>
    have HP := Lib.hid (root_no s (by omega))
    go_enter Try.func11, Try.ntmps11
    go_wp2_with fail
    refine (root_aba_any _).mono ?_
    rintro e w1 ⟨rfl, hb1⟩
    go_wp2_with fail
    refine (HP.out w1).mono ?_
    rintro e w2 ⟨rfl, rfl⟩
    go_wp2
    go_ret
    exact ⟨rfl, hb1⟩
  by_cases h0 : s.size = 0
  · obtain rfl : s = ByteArray.empty := ByteArray.ext (Array.eq_empty_of_size_eq_zero h0)
    have hr : ∀ w, Calls Try.prog 25 #[.string ByteArray.empty] w fun e w' => e = .returned (.tuple #[.string ⟨#[]⟩, .int .i64 0, .int .i64 0]) ∧ Below w.heap.size w w' := fun w => root_walk ByteArray.empty (by decide) w
    have HP := Lib.hid hr
    go_enter Try.func11, Try.ntmps11
    go_wp2_with fail
    refine (root_aba_any _).mono ?_
    rintro e w1 ⟨rfl, hb1⟩
    go_wp2_with fail
    refine (HP.out w1).mono ?_
    rintro e w2 ⟨rfl, hb2⟩
    go_wp2
    go_ret
    exact ⟨rfl, chain hb2 hb1⟩
  have hd1 : (200 : Int) / (s.size : Int) = ((200 / s.size : Nat) : Int) := by push_cast; rfl
  have hd2 : 1 ≤ 200 / s.size := (Nat.le_div_iff_mul_le (by omega)).2 (by omega)
  have hd3 : 200 / s.size * s.size ≤ 200 := Nat.div_mul_le_self _ _
  obtain ⟨d, hd⟩ : ∃ d, d = 200 / s.size := ⟨_, rfl⟩
  rw [← hd] at hd1 hd2 hd3
  have hd200 : d ≤ 200 := by rw [hd]; exact Nat.div_le_self _ _
  obtain ⟨n, hn, hwin⟩ : ∃ n : Nat, n < d ∧ ∀ w, Calls Try.prog 18 #[.int .i64 n0, .int .i64 (d : Int)] w fun e w' => e = .returned (.int .i64 (n : Int)) ∧ w = w' := by
    have e1 := Int.emod_nonneg n0 (show (d : Int) ≠ 0 by omega)
    have e2 := Int.emod_lt_of_pos n0 (show (0 : Int) < (d : Int) by omega)
    refine ⟨(n0 % (d : Int)).toNat, by omega, fun w => ?_⟩
    rw [Int.toNat_of_nonneg e1]
    exact within_any n0 d (by omega) (by omega) w
  obtain ⟨r, t, k, p, c1, c2, c3, c4, c5, k1, k2, k3, k4, k5⟩ := wroot_core s (by omega) hs n (Nat.le_trans (Nat.mul_le_mul_right _ (by omega)) hd3)
  have C1 := Lib.hid c1
  have C2 := Lib.hid c2
  have C3 := Lib.hid c3
  have C4 := Lib.hid c4
  have C5 := Lib.hid c5
  have Hwin := Lib.hid hwin
  have hmx : max (1 : Int) (d : Int) = (d : Int) := by omega
  have hif : (if 1 < d then (d : Int) else 1) = (d : Int) := by split <;> omega
  have q1 : s.toList.isEmpty = false := by
    rw [List.isEmpty_eq_false_iff]
    intro e
    have : s.toList.length = s.size := by rw [ByteArray.toList_eq]; rfl
    rw [e] at this
    exact h0 this.symm
  have q2 : (1 : Int) ≤ (k : Int) := by omega
  have q3 : (k : Int) ≤ (s.size : Int) := by omega
  have hs1 : (1 : Int) ≤ (s.size : Int) := by omega
  have hsn : ¬ ((s.size : Int) = 0) := by omega
  clear c1 c2 c3 c4 c5 hwin hd hd3
  go_enter Try.func11, Try.ntmps11
  go_wp2_with fail
  refine (root_aba_any _).mono ?_
  rintro e w1 ⟨rfl, hb1⟩
  go_wp2_with fail
  refine (C1.out w1).mono ?_
  rintro e w2 ⟨rfl, hb2⟩
  have hbw2 := chain hb2 hb1
  clear hb1 hb2 C1
  go_wp2_with fail
  refine (C2.out w2).mono ?_
  rintro e w3 ⟨rfl, hb3⟩
  have hbw3 := chain hb3 hbw2
  clear hb3 hbw2 C2
  go_wp2_with fail
  refine (Hwin.out w3).mono ?_
  rintro e w4 ⟨rfl, rfl⟩
  go_wp2_with fail
  refine (C3.out w3).mono ?_
  rintro e w5 ⟨rfl, hb5⟩
  have hbw5 := chain hb5 hbw3
  clear hb5 hbw3 C3 Hwin
  go_wp2_with fail
  refine (C4.out w5).mono ?_
  rintro e w6 ⟨rfl, hb6⟩
  have hbw6 := chain hb6 hbw5
  clear hb6 hbw5 C4
  go_wp2_with fail
  refine (good_fresh [0, 0] 2 2 rfl (by decide) _ _).mono ?_
  rintro e w7 ⟨rfl, hb7⟩
  have hbw7 := chain hb7 hbw6
  clear hb7 hbw6
  go_wp2_with fail
  refine (C5.out w7).mono ?_
  rintro e w8 ⟨rfl, hb8⟩
  have hbw8 := chain hb8 hbw7
  go_wp2
  go_ret
  exact ⟨rfl, hbw8⟩
end Go.Proofs.Ytppbjomobbaeaaa
