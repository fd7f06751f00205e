/- WordPowers' walk: two words commute if and only if they are powers of a common root, or one is empty. -/
import Derived.Test.YtmojfmoinaadgaaWordLaws
namespace Go.Proofs.Ytmojfmoinaadgaa
open Go.RowKit
set_option linter.unusedVariables false

theorem cut100w_size (s : ByteArray) (n : Nat) : (s.extract 0 n).size ≤ n := by simp; omega
theorem root_abab : rootOf (ByteArray.mk #[97, 98, 97, 98]).data.toList = [97, 98] ∧ expOf (ByteArray.mk #[97, 98, 97, 98]).data.toList = 2 := by decide +kernel

set_option maxHeartbeats 1000000 in
theorem wordPowers_core (a b a0 b0 : ByteArray) (ha : a.size ≤ 100) (hb : b.size ≤ 100)
    (ca : ∀ w, Calls Try.prog 16 #[.string a0, .int .i64 100] w fun e w' => e = .returned (.string a) ∧ w = w')
    (cb : ∀ w, Calls Try.prog 16 #[.string b0, .int .i64 100] w fun e w' => e = .returned (.string b) ∧ w = w') (w : World) :
    Calls Try.prog 5 #[.string a0, .string b0] w fun e w' => e = .returned (.bool true) ∧ Below w.heap.size w w' := by
  have c1 : ∀ w, Calls Try.prog 22 #[.string ⟨#[97, 98, 97, 98]⟩] w fun e w' => e = .returned (.tuple #[.string ⟨#[97, 98]⟩, .int .i64 2, .int .i64 0]) ∧ Below w.heap.size w w' := fun w => by
    have := root_walk ⟨#[97, 98, 97, 98]⟩ (by decide) w
    rw [root_abab.1, root_abab.2] at this
    exact this
  have C1 := Lib.hid c1
  have h1 := root_walk a (by omega)
  have h2 := root_walk b (by omega)
  have hla : a.toList = [] ↔ a.size = 0 := by rw [ByteArray.toList_eq]; exact ⟨fun h => by show a.data.toList.length = 0; rw [h]; rfl, fun h => List.eq_nil_of_length_eq_zero h⟩
  have hlb : b.toList = [] ↔ b.size = 0 := by rw [ByteArray.toList_eq]; exact ⟨fun h => by show b.data.toList.length = 0; rw [h]; rfl, fun h => List.eq_nil_of_length_eq_zero h⟩
  have hab : ((a ++ b).toList == (b ++ a).toList) = decide (a.data.toList ++ b.data.toList = b.data.toList ++ a.data.toList) := by
    rw [ByteArray.toList_eq, ByteArray.toList_eq, Bool.eq_iff_iff, beq_iff_eq, decide_eq_true_iff]; simp
  have hr : ((ByteArray.mk (rootOf a.data.toList).toArray).toList == (ByteArray.mk (rootOf b.data.toList).toArray).toList) = decide (rootOf a.data.toList = rootOf b.data.toList) := by
    rw [ByteArray.toList_eq, ByteArray.toList_eq, Bool.eq_iff_iff, beq_iff_eq, decide_eq_true_iff]
  have key : 0 < a.size → 0 < b.size → decide (a.data.toList ++ b.data.toList = b.data.toList ++ a.data.toList) = decide (rootOf a.data.toList = rootOf b.data.toList) := fun h1 h2 => by
    rw [Bool.eq_iff_iff, decide_eq_true_iff, decide_eq_true_iff]
    exact commute_iff _ _ h1 h2
  have ke : a.size = 0 ∨ b.size = 0 → decide (a.data.toList ++ b.data.toList = b.data.toList ++ a.data.toList) = true := fun h => by
    rw [decide_eq_true_iff]
    rcases h with h | h
    · rw [show a.data.toList = [] from List.eq_nil_of_length_eq_zero h]; simp
    · rw [show b.data.toList = [] from List.eq_nil_of_length_eq_zero h]; simp
  generalize ByteArray.mk (rootOf a.data.toList).toArray = ra at *
  generalize ByteArray.mk (rootOf b.data.toList).toArray = rb at *
  generalize decide (a.data.toList ++ b.data.toList = b.data.toList ++ a.data.toList) = x at *
  generalize decide (rootOf a.data.toList = rootOf b.data.toList) = y at *
  have H1 := Lib.hid h1
  have H2 := Lib.hid h2
  have CA := Lib.hid ca
  have CB := Lib.hid cb
  have z1 : a.size + b.size ≤ 9223372036854775807 := by omega
  have z2 : b.size + a.size ≤ 9223372036854775807 := by omega
  have Hla := Lib.hid hla
  have Hlb := Lib.hid hlb
  have Key := Lib.hid key
  have Ke := Lib.hid ke
  clear c1 h1 h2 ca cb hla hlb key ke
  go_enter Try.func5, Try.ntmps5
  go_wp2_with fail
  refine (C1.out _).mono ?_
  rintro e w1 ⟨rfl, hb1⟩
  go_wp2_with fail
  refine (CA.out _).mono ?_
  rintro e w2 ⟨rfl, rfl⟩
  go_wp2_with fail
  refine (CB.out _).mono ?_
  rintro e w2 ⟨rfl, rfl⟩
  go_wp2_with fail
  refine (H1.out _).mono ?_
  rintro e w2 ⟨rfl, hb2⟩
  go_wp2_with fail
  refine (H2.out _).mono ?_
  rintro e w3 ⟨rfl, hb3⟩
  have hbw := chain hb3 (chain hb2 hb1)
  clear hb1 hb2 hb3
  go_wp2_with fail
  refine (good_fresh [0, 0] 2 2 rfl (by decide) _ _).mono ?_
  rintro e w4 ⟨rfl, hb4⟩
  have q0 : ([0, 0] : List Int).all (· == 0) = true := by decide
  have hbw4 := chain hb4 hbw
  clear hb4 hbw
  by_cases ea : a.size = 0
  · have q1 : a.toList = [] := Hla.out.2 ea
    have q1' : (!a.toList.isEmpty) = false := by rw [q1]; rfl
    have q1'' : (a.toList == []) = true := by rw [q1]; rfl
    have q1''' : a.toList.isEmpty = true := by rw [q1]; rfl
    have hx : x = true := Ke.out (.inl ea)
    subst hx
    cases y <;> (
      go_wp2
      go_ret
      exact ⟨by simp, hbw4⟩)
  · have q1 : a.toList.isEmpty = false := by rw [List.isEmpty_eq_false_iff]; exact mt Hla.out.1 ea
    have q1' : (a.toList == []) = false := by rw [beq_eq_false_iff_ne]; exact mt Hla.out.1 ea
    by_cases eb : b.size = 0
    · have q2 : b.toList = [] := Hlb.out.2 eb
      have q2' : (!b.toList.isEmpty) = false := by rw [q2]; rfl
      have q2'' : (b.toList == []) = true := by rw [q2]; rfl
      have q2''' : b.toList.isEmpty = true := by rw [q2]; rfl
      have hx : x = true := Ke.out (.inr eb)
      subst hx
      cases y <;> (
        go_wp2
        go_ret
        exact ⟨by simp, hbw4⟩)
    · have q2 : b.toList.isEmpty = false := by rw [List.isEmpty_eq_false_iff]; exact mt Hlb.out.1 eb
      have q2' : (b.toList == []) = false := by rw [beq_eq_false_iff_ne]; exact mt Hlb.out.1 eb
      have hx : x = y := Key.out (by omega) (by omega)
      subst hx
      cases x <;> (
        go_wp2
        go_ret
        exact ⟨by simp, hbw4⟩)

theorem wordPowers_walk (a b : ByteArray) (ha : a.size ≤ 140737488351232) (hb : b.size ≤ 140737488351232) (w : World) :
    Calls Try.prog 5 #[.string a, .string b] w fun e w' => e = .returned (.bool true) ∧ Below w.heap.size w w' :=
  wordPowers_core _ _ a b (cut100w_size a 100) (cut100w_size b 100) (cut_any a 100 (by decide) ha) (cut_any b 100 (by decide) hb) w

end Go.Proofs.Ytmojfmoinaadgaa
