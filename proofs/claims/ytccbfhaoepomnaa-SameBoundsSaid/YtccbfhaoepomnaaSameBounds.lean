/- SameBounds' walk: the length is symmetric, invariant under reversal, at most both lengths, and equals a length exactly for subsequences. -/
import Derived.Test.YtccbfhaoepomnaaSameLaws
namespace Go.Proofs.Ytccbfhaoepomnaa
open Go.RowKit
set_option linter.unusedVariables false

set_option maxRecDepth 100000 in
set_option maxHeartbeats 1000000 in
theorem sameBounds_walk (a b : ByteArray) (ha0 : a.size ≤ 140737488351232) (hb0 : b.size ≤ 140737488351232) (w : World) :
    Calls Try.prog 9 #[.string a, .string b] w fun e w' => e = .returned (.bool true) ∧ Below w.heap.size w w' := by
  have hra : (ByteArray.mk a.data.toList.reverse.toArray).size = a.size := by show a.data.toList.reverse.length = _; rw [List.length_reverse]; rfl
  have hrb : (ByteArray.mk b.data.toList.reverse.toArray).size = b.size := by show b.data.toList.reverse.length = _; rw [List.length_reverse]; rfl
  have B1 := Lib.hid (back_any a (by omega))
  have B2 := Lib.hid (back_any b (by omega))
  by_cases h : a.size ≤ 200 ∧ b.size ≤ 200
  · obtain ⟨ha, hb⟩ := h
    have s1 := long_ok a b ha hb
    have s2 := long_ok b a hb ha
    have s3 := long_ok ⟨a.data.toList.reverse.toArray⟩ ⟨b.data.toList.reverse.toArray⟩ (by omega) (by omega)
    have s4 := sameWithin_ok a b ha hb
    rw [lcs_comm b.data.toList] at s2
    rw [show lcs (ByteArray.mk a.data.toList.reverse.toArray).data.toList (ByteArray.mk b.data.toList.reverse.toArray).data.toList = lcs a.data.toList b.data.toList from lcs_reverse _ _] at s3
    have l1 := lcs_le_left a.data.toList b.data.toList
    have l2 := lcs_le_right a.data.toList b.data.toList
    have l3 := lcs_full a.data.toList b.data.toList
    rw [show a.data.toList.length = a.size from rfl] at l1 l3
    rw [show b.data.toList.length = b.size from rfl] at l2
    have hd : decide (a.data.toList.Sublist b.data.toList) = ((lcs a.data.toList b.data.toList : Nat) == a.size) := by
      rw [Bool.eq_iff_iff, decide_eq_true_iff, beq_iff_eq]; exact l3.symm
    rw [hd] at s4
    generalize lcs a.data.toList b.data.toList = L at *
    have q1 : ((L : Int) == (L : Int)) = true := by simp
    have q2 : decide ((0 : Int) ≤ (L : Int)) = true := decide_eq_true (by omega)
    obtain ⟨m, hm, hm1⟩ : ∃ m : Nat, (∀ (ats : Array TypeId) (t : TypeId) (w : World), (Builtin.min_ ats t #[.int .i64 (a.size : Int), .int .i64 (b.size : Int)]).run Try.prog w = .ok (.int .i64 (m : Int)) w) ∧ L ≤ m :=
      ⟨min a.size b.size, fun ats t w => by rw [run_min_int2]; congr 2; omega, by omega⟩
    have q3 : decide (L ≤ m) = true := decide_eq_true hm1
    have q3' : decide ((L : Int) ≤ (m : Int)) = true := decide_eq_true (by omega)
    obtain ⟨z, hz⟩ : ∃ z, (L == a.size) = z := ⟨_, rfl⟩
    rw [hz] at s4
    have q4 : ((L : Int) == (a.size : Int)) = z := by rw [← hz, Bool.eq_iff_iff, beq_iff_eq, beq_iff_eq]; omega
    have S1 := Lib.hid s1
    have S2 := Lib.hid s2
    have S3 := Lib.hid s3
    have S4 := Lib.hid s4
    clear s1 s2 s3 s4 l1 l2 l3 hd hz hm1 hra hrb
    generalize ByteArray.mk a.data.toList.reverse.toArray = ra at *
    generalize ByteArray.mk b.data.toList.reverse.toArray = rb at *
    go_enter Try.func9, Try.ntmps9
    go_wp2_with fail
    refine (sames_any _).mono ?_
    rintro e w1 ⟨rfl, hb1⟩
    go_wp2_with fail
    refine (S1.out _).mono ?_
    rintro e w2 ⟨rfl, hb2⟩
    go_wp2_with fail
    refine (S2.out _).mono ?_
    rintro e w3 ⟨rfl, hb3⟩
    go_wp2_with fail
    refine (B1.out _).mono ?_
    rintro e w4 ⟨rfl, hb4⟩
    go_wp2_with fail
    refine (B2.out _).mono ?_
    rintro e w5 ⟨rfl, hb5⟩
    go_wp2_with fail
    refine (S3.out _).mono ?_
    rintro e w6 ⟨rfl, hb6⟩
    go_wp2_with fail
    refine (S4.out _).mono ?_
    rintro e w7 ⟨rfl, hb7⟩
    have hbw := chain hb7 (chain hb6 (chain hb5 (chain hb4 (chain hb3 (chain hb2 hb1)))))
    clear hb1 hb2 hb3 hb4 hb5 hb6 hb7
    go_wp2_with fail
    refine (good_fresh [0, 0, 0] 3 3 rfl (by decide) _ _).mono ?_
    rintro e w8 ⟨rfl, hb8⟩
    have q0 : ([0, 0, 0] : List Int).all (· == 0) = true := by decide
    have hbw8 := chain hb8 hbw
    have q5 : (z == z) = true := by simp
    go_wp2
    go_ret
    exact ⟨by simp, hbw8⟩
  · have h' : 200 < a.size ∨ 200 < b.size := by omega
    have S1 := Lib.hid (long_no a b h')
    have S2 := Lib.hid (long_no b a (by omega))
    have S3 := Lib.hid (long_no ⟨a.data.toList.reverse.toArray⟩ ⟨b.data.toList.reverse.toArray⟩ (by omega))
    have S4 := Lib.hid (sameWithin_no a b h')
    clear hra hrb h h'
    generalize ByteArray.mk a.data.toList.reverse.toArray = ra at *
    generalize ByteArray.mk b.data.toList.reverse.toArray = rb at *
    go_enter Try.func9, Try.ntmps9
    go_wp2_with fail
    refine (sames_any _).mono ?_
    rintro e w1 ⟨rfl, hb1⟩
    go_wp2_with fail
    refine (S1.out _).mono ?_
    rintro e w2 ⟨rfl, rfl⟩
    go_wp2_with fail
    refine (S2.out _).mono ?_
    rintro e w3 ⟨rfl, rfl⟩
    go_wp2_with fail
    refine (B1.out _).mono ?_
    rintro e w4 ⟨rfl, hb4⟩
    go_wp2_with fail
    refine (B2.out _).mono ?_
    rintro e w5 ⟨rfl, hb5⟩
    go_wp2_with fail
    refine (S3.out _).mono ?_
    rintro e w6 ⟨rfl, rfl⟩
    go_wp2_with fail
    refine (S4.out _).mono ?_
    rintro e w7 ⟨rfl, rfl⟩
    go_wp2
    go_ret
    exact ⟨rfl, chain hb5 (chain hb4 hb1)⟩

end Go.Proofs.Ytccbfhaoepomnaa
