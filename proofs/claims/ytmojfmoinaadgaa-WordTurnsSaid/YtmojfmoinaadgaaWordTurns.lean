/- WordTurns' walk: all rotations and the reversal of a word have roots of the same length and exponent. -/
import Derived.Test.YtmojfmoinaadgaaWordLaws
import Derived.Test.YtmojfmoinaadgaaKeep
import Derived.Deep.RegionHeld3
namespace Go.Proofs.Ytmojfmoinaadgaa
open Go.RowKit
set_option linter.unusedVariables false

/-- A word turned. -/
def turnW (s : ByteArray) (k : Nat) : ByteArray := s.extract k s.size ++ s.extract 0 k
theorem turnW_list (s : ByteArray) (k : Nat) : (turnW s k).data.toList = s.data.toList.drop k ++ s.data.toList.take k := by
  unfold turnW
  rw [ByteArray.data_append, Array.toList_append, Lib.extract_data, Lib.extract_data, Nat.sub_zero, List.drop_zero, List.take_of_length_le]
  rw [List.length_drop]; exact Nat.le_refl _
theorem turnW_size (s : ByteArray) (k : Nat) (h : k ≤ s.size) : (turnW s k).size = s.size := by
  have := congrArg List.length (turnW_list s k)
  rw [turn_length _ _ h] at this
  exact this

set_option maxHeartbeats 1000000 in
theorem wordTurns_walk (s : ByteArray) (k0 : Int) (hs0 : s.size ≤ 140737488351232) (hk0 : (Lit.int .i64 k0).wf = true) (w : World) :
    Calls Try.prog 7 #[.string s, .int .i64 k0] w fun e w' => e = .returned (.bool true) ∧ Below w.heap.size w w' := by
  obtain ⟨k, hk, hkm⟩ : ∃ k : Nat, k0 % ((s.size : Int) + 1) = k ∧ k ≤ s.size := by
    have h1 := Int.emod_nonneg k0 (show ((s.size : Int) + 1) ≠ 0 by omega)
    have h2 := Int.emod_lt_of_pos k0 (show 0 < ((s.size : Int) + 1) by omega)
    exact ⟨(k0 % ((s.size : Int) + 1)).toNat, by omega, by omega⟩
  have hw1 : ∀ w, Calls Try.prog 24 #[.int .i64 k0, .int .i64 ((s.size : Int) + 1)] w fun e w' => e = .returned (.int .i64 (k : Int)) ∧ w = w' := fun w => by
    have := within_any k0 ((s.size : Int) + 1) (by omega) (by omega) w
    rwa [hk] at this
  have Hw1 := Lib.hid hw1
  clear hw1 hk
  have hks : (k : Int) ≤ s.size := by omega
  have hrev : (ByteArray.mk s.data.toList.reverse.toArray).size = s.size := by show s.data.toList.reverse.length = _; rw [List.length_reverse]; rfl
  -- what each of the three calls of Root answers
  have key : ∃ (r q t : ByteArray) (n : Nat) (E : Int), (∀ w, Calls Try.prog 22 #[.string s] w fun e w' => e = .returned (.tuple #[.string r, .int .i64 (n : Int), .int .i64 E]) ∧ Below w.heap.size w w') ∧
      (∀ w, Calls Try.prog 22 #[.string (turnW s k)] w fun e w' => e = .returned (.tuple #[.string q, .int .i64 (n : Int), .int .i64 E]) ∧ Below w.heap.size w w') ∧
      (∀ w, Calls Try.prog 22 #[.string ⟨s.data.toList.reverse.toArray⟩] w fun e w' => e = .returned (.tuple #[.string t, .int .i64 (n : Int), .int .i64 E]) ∧ Below w.heap.size w w') ∧
      r.size = q.size ∧ r.size ≤ 200 ∧ t = ⟨r.data.toList.reverse.toArray⟩ := by
    by_cases hs : s.size ≤ 200
    · obtain ⟨t1, t2⟩ := root_turn s.data.toList k hkm
      obtain ⟨r1, r2⟩ := root_rev s.data.toList
      refine ⟨⟨(rootOf s.data.toList).toArray⟩, ⟨(rootOf (s.data.toList.drop k ++ s.data.toList.take k)).toArray⟩, ⟨(rootOf s.data.toList).reverse.toArray⟩, expOf s.data.toList, 0, root_walk s hs, fun w => ?_, fun w => ?_, ?_, ?_, rfl⟩
      · have := root_walk (turnW s k) (by rw [turnW_size s k hkm]; exact hs) w
        rwa [turnW_list, t2] at this
      · have := root_walk ⟨s.data.toList.reverse.toArray⟩ (by rw [hrev]; exact hs) w
        rwa [show (ByteArray.mk s.data.toList.reverse.toArray).data.toList = s.data.toList.reverse from rfl, r1, r2] at this
      · show (rootOf s.data.toList).length = (rootOf _).length
        rw [root_length, root_length, t1]
      · show (rootOf s.data.toList).length ≤ 200
        unfold rootOf
        rw [List.length_take]
        have : s.data.toList.length = s.size := rfl
        omega
    · refine ⟨⟨#[]⟩, ⟨#[]⟩, ⟨#[]⟩, 0, 2, fun w => ?_, fun w => ?_, fun w => ?_, rfl, by decide, rfl⟩
      · exact (root_no s (by omega) w).mono fun e w' ⟨he, hw⟩ => ⟨he, by rw [← hw]; exact Below.refl _ _⟩
      · exact (root_no (turnW s k) (by rw [turnW_size s k hkm]; omega) w).mono fun e w' ⟨he, hw⟩ => ⟨he, by rw [← hw]; exact Below.refl _ _⟩
      · exact (root_no ⟨s.data.toList.reverse.toArray⟩ (by rw [hrev]; omega) w).mono fun e w' ⟨he, hw⟩ => ⟨he, by rw [← hw]; exact Below.refl _ _⟩
  obtain ⟨r, q, t, n, E, h1, h2, h3, h4, h5, h6⟩ := key
  have hb := back_any r (by omega)
  rw [← h6] at hb
  have H1 := Lib.hid h1
  have H2 := Lib.hid h2
  have H3 := Lib.hid h3
  have Hb := Lib.hid hb
  have B1 := Lib.hid (back_any s (by omega))
  have hca : ∀ w, (Op.stringOp .add (s.extract k s.size) (s.extract 0 k)).run Try.prog w = .ok (.string (turnW s k)) w := fun w => run_string_add_sum w _ _ (by simp; omega)
  generalize turnW s k = u at *
  have q1 : ((E : Int) == E) = true := by simp
  have q2 : ((n : Int) == (n : Int)) = true := by simp
  have q3 : ((r.size : Int) == (q.size : Int)) = true := by rw [h4]; simp
  have q4 : (t.toList == t.toList) = true := by simp
  clear h1 h2 h3 h4 h6 hb hrev
  go_enter Try.func7, Try.ntmps7
  go_wp2_with fail
  refine (words_any _).mono ?_
  rintro e w1 ⟨rfl, hb1⟩
  go_wp2_with fail
  refine (Hw1.out _).mono ?_
  rintro e w2 ⟨rfl, rfl⟩
  go_wp2_with fail
  refine (H1.out _).mono ?_
  rintro e w2 ⟨rfl, hb2⟩
  have hbw := chain hb2 hb1
  clear hb1 hb2
  go_wp2_with fail
  go_region_held3 (fun w' => Below w.heap.size w w') (first | exact hbw.drew | assumption | exact chain (by assumption) (by assumption))
    ((go_at_call 22; refine (H2.out _).mono ?_; rintro e w6 ⟨rfl, hb6⟩))
  have hbw6 : Below w.heap.size w w6 := by assumption
  go_wp2_with fail
  refine (B1.out _).mono ?_
  rintro e w7 ⟨rfl, hb7⟩
  go_wp2_with fail
  refine (H3.out _).mono ?_
  rintro e w8 ⟨rfl, hb8⟩
  have hbw8 := chain hb8 (chain hb7 hbw6)
  go_wp2_with fail
  refine (Hb.out _).mono ?_
  rintro e w9 ⟨rfl, hb9⟩
  go_wp2
  go_ret
  exact ⟨by simp, chain hb9 hbw8⟩

end Go.Proofs.Ytmojfmoinaadgaa
