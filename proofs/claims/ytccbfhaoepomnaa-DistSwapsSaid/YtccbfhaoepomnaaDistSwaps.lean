/- DistSwaps' walk: the edit distance is at most the Hamming distance, which is a metric too. -/
import Derived.Test.YtccbfhaoepomnaaSwaps
import Derived.Test.YtccbfhaoepomnaaGood
namespace Go.Proofs.Ytccbfhaoepomnaa
open Go.RowKit
set_option linter.unusedVariables false

theorem ham_karolin : hamN (ByteArray.mk #[107, 97, 114, 111, 108, 105, 110]).data.toList (ByteArray.mk #[107, 97, 116, 104, 114, 105, 110]).data.toList 7 = 3 := by decide +kernel
theorem front_size (s : ByteArray) (k : Nat) (h : k ≤ s.size) : (s.extract 0 k).size = k := by simp; omega

set_option maxRecDepth 100000 in
set_option maxHeartbeats 1000000 in
theorem distSwaps_walk (a0 b0 c0 : ByteArray) (ha : a0.size ≤ 140737488351232) (hb : b0.size ≤ 140737488351232) (hc : c0.size ≤ 140737488351232) (w : World) :
    Calls Try.prog 8 #[.string a0, .string b0, .string c0] w fun e w' => e = .returned (.bool true) ∧ Below w.heap.size w w' := by
  obtain ⟨k, hm, hka, hkb, hkc⟩ : ∃ k : Nat, (∀ (ats : Array TypeId) (t : TypeId) (w : World), (Builtin.min_ ats t #[.int .i64 (a0.size : Int), .int .i64 (b0.size : Int), .int .i64 (c0.size : Int)]).run Try.prog w = .ok (.int .i64 (k : Int)) w) ∧ k ≤ a0.size ∧ k ≤ b0.size ∧ k ≤ c0.size :=
    ⟨min (min a0.size b0.size) c0.size, fun ats t w => by rw [run_min_int3]; congr 2; omega, by omega, by omega, by omega⟩
  have c1 : ∀ w, Calls Try.prog 25 #[.string ⟨#[107, 97, 114, 111, 108, 105, 110]⟩, .string ⟨#[107, 97, 116, 104, 114, 105, 110]⟩] w fun e w' => e = .returned (.tuple #[.int .i64 3, .int .i64 0]) ∧ Below w.heap.size w w' := fun w => by
    have := swaps_ok ⟨#[107, 97, 114, 111, 108, 105, 110]⟩ ⟨#[107, 97, 116, 104, 114, 105, 110]⟩ rfl (by decide) w
    rw [show (ByteArray.mk #[107, 97, 114, 111, 108, 105, 110]).size = 7 from rfl, ham_karolin] at this
    exact this
  have C1 := Lib.hid c1
  clear c1
  have za := front_size a0 k hka
  have zb := front_size b0 k hkb
  have zc := front_size c0 k hkc
  have Za := Lib.hid za
  have Zb := Lib.hid zb
  have Zc := Lib.hid zc
  clear za zb zc
  go_enter Try.func8, Try.ntmps8
  go_wp2_with fail
  refine (C1.out _).mono ?_
  rintro e w1 ⟨rfl, hb1⟩
  go_wp2_with fail
  refine (dists_any _).mono ?_
  rintro e w2 ⟨rfl, hb2⟩
  have hbw := chain hb2 hb1
  clear hb1 hb2
  have hka' : (k : Int) ≤ a0.size := by omega
  have hkb' : (k : Int) ≤ b0.size := by omega
  have hkc' : (k : Int) ≤ c0.size := by omega
  go_wp2
  go_quiet (fail)
  generalize a0.extract 0 k = a at *
  generalize b0.extract 0 k = b at *
  generalize c0.extract 0 k = c at *
  by_cases h : k ≤ 200
  · have l1 := lev_le_hamN a.data.toList b.data.toList k (by have := Za.out; show _ ≤ a.size; omega) (by have := Zb.out; show _ ≤ b.size; omega)
    have l2 := hamN_zero a.data.toList b.data.toList k (by have := Za.out; show _ ≤ a.size; omega) (by have := Zb.out; show _ ≤ b.size; omega)
    rw [List.take_of_length_le (by have := Za.out; show a.size ≤ _; omega), List.take_of_length_le (by have := Zb.out; show b.size ≤ _; omega)] at l1 l2
    have l3 := hamN_tri a.data.toList b.data.toList c.data.toList k
    have n1 := hamN_le a.data.toList b.data.toList k
    have n2 := hamN_le b.data.toList c.data.toList k
    have s1 := fun w => swaps_ok a b (by rw [Za.out, Zb.out]) (by rw [Za.out]; exact h) w
    have s2 := fun w => swaps_ok b c (by rw [Zb.out, Zc.out]) (by rw [Zb.out]; exact h) w
    have s3 := fun w => swaps_ok a c (by rw [Za.out, Zc.out]) (by rw [Za.out]; exact h) w
    have s4 := fun w => dist_ok a b (by rw [Za.out]; exact h) (by rw [Zb.out]; exact h) w
    rw [Za.out] at s1 s3
    rw [Zb.out] at s2
    generalize hamN a.data.toList b.data.toList k = x at *
    generalize hamN b.data.toList c.data.toList k = y at *
    generalize hamN a.data.toList c.data.toList k = z at *
    generalize lev a.data.toList b.data.toList = d at *
    have S1 := Lib.hid s1
    have S2 := Lib.hid s2
    have S3 := Lib.hid s3
    have S4 := Lib.hid s4
    have q1 : decide (d ≤ x) = true := decide_eq_true l1
    have q2 : decide ((z : Int) ≤ (x : Int) + (y : Int)) = true := decide_eq_true (by omega)
    have q2' : decide (z ≤ x + y) = true := decide_eq_true (by omega)
    have q3 : ((((x : Nat) : Int) == 0) == (a.toList == b.toList)) = true := by
      rw [ByteArray.toList_eq, ByteArray.toList_eq, beq_iff_eq, Bool.eq_iff_iff]
      simp only [beq_iff_eq]
      exact ⟨fun h => l2.1 (by omega), fun h => by rw [l2.2 h]; rfl⟩
    clear s1 s2 s3 s4 l1 l2 l3
    go_wp2_with fail
    refine (S1.out _).mono ?_
    rintro e w3 ⟨rfl, hb3⟩
    go_wp2_with fail
    refine (S2.out _).mono ?_
    rintro e w4 ⟨rfl, hb4⟩
    go_wp2_with fail
    refine (S3.out _).mono ?_
    rintro e w5 ⟨rfl, hb5⟩
    go_wp2_with fail
    refine (S4.out _).mono ?_
    rintro e w6 ⟨rfl, hb6⟩
    have hbw6 := chain hb6 (chain hb5 (chain hb4 (chain hb3 (below_drewN hbw _))))
    clear hb3 hb4 hb5 hb6 hbw
    go_wp2_with fail
    refine (good_fresh [0, 0, 0] 3 3 rfl (by decide) _ _).mono ?_
    rintro e w7 ⟨rfl, hb7⟩
    have hbw7 := chain hb7 hbw6
    have q0 : ([0, 0, 0] : List Int).all (· == 0) = true := by decide
    go_wp2
    go_ret
    exact ⟨by simp, hbw7⟩
  · have S1 := Lib.hid (swaps_no a b (by rw [Za.out]; omega))
    have S2 := Lib.hid (swaps_no b c (by rw [Zb.out]; omega))
    have S3 := Lib.hid (swaps_no a c (by rw [Za.out]; omega))
    have S4 := Lib.hid (dist_no a b (.inl (by rw [Za.out]; omega)))
    go_wp2_with fail
    refine (S1.out _).mono ?_
    rintro e w3 ⟨rfl, rfl⟩
    go_wp2_with fail
    refine (S2.out _).mono ?_
    rintro e w4 ⟨rfl, rfl⟩
    go_wp2_with fail
    refine (S3.out _).mono ?_
    rintro e w5 ⟨rfl, rfl⟩
    go_wp2_with fail
    refine (S4.out _).mono ?_
    rintro e w6 ⟨rfl, rfl⟩
    go_wp2
    go_ret
    exact ⟨rfl, below_drewN hbw _⟩

end Go.Proofs.Ytccbfhaoepomnaa
