/- DistMetric's walk: the edit distance is a metric. -/
import Derived.Test.YtndnglaohjbapaaDist
namespace Go.Proofs.Ytndnglaohjbapaa
open Go.RowKit
set_option linter.unusedVariables false

theorem metric_law (a b c : ByteArray) (h1 : de a b = 0) (h2 : de a c = 0) : (dv a b == 0) = (a.toList == b.toList) ∧ dv a c ≤ dv a b + dv b c := by
  obtain ⟨ha, hb⟩ := de_zero h1
  obtain ⟨_, hc⟩ := de_zero h2
  rw [dv_ok ha hb, dv_ok ha hc, dv_ok hb hc, ByteArray.toList_eq, ByteArray.toList_eq]
  refine ⟨?_, by have := lev_tri a.data.toList b.data.toList c.data.toList; omega⟩
  have := lev_zero a.data.toList b.data.toList
  rw [Bool.eq_iff_iff]
  simp only [beq_iff_eq]
  exact ⟨fun h => this.1 (by omega), fun h => by rw [this.2 h]; rfl⟩

set_option maxHeartbeats 400000 in
theorem distMetric_walk (a b c : ByteArray) (ha : a.size ≤ 140737488351232) (hb : b.size ≤ 140737488351232) (hc : c.size ≤ 140737488351232) (w : World) :
    Calls Try.prog 6 #[.string a, .string b, .string c] w fun e w' => e = .returned (.bool true) ∧ Below w.heap.size w w' := by
  have hab : ∀ w, Calls Try.prog 22 #[.string b, .string a] w fun e w' => e = .returned (.tuple #[.int .i64 (dv a b), .int .i64 (de a b)]) ∧ Below w.heap.size w w' := fun w => by
    rw [dv_comm a b, de_comm a b]; exact dist_any b a w
  have Hab := Lib.hid hab
  clear hab
  have hlaw := metric_law a b c
  have Hlaw := Lib.hid hlaw
  clear hlaw
  obtain ⟨hx0, hx1⟩ := dv_bd a b
  obtain ⟨hz0, hz1⟩ := dv_bd b c
  go_enter Try.func6, Try.ntmps6
  go_wp2_with fail
  refine (dists_any _).mono ?_
  rintro e w1 ⟨rfl, hb1⟩
  go_wp2_with fail
  refine (dist_any a b _).mono ?_
  rintro e w2 ⟨rfl, hb2⟩
  go_wp2_with fail
  refine (Hab.out _).mono ?_
  rintro e w3 ⟨rfl, hb3⟩
  go_wp2_with fail
  refine (dist_any b c _).mono ?_
  rintro e w4 ⟨rfl, hb4⟩
  go_wp2_with fail
  refine (dist_any a c _).mono ?_
  rintro e w5 ⟨rfl, hb5⟩
  have hbw := chain hb5 (chain hb4 (chain hb3 (chain hb2 hb1)))
  clear hb1 hb2 hb3 hb4 hb5
  have Hlaw2 : Hid (de a b = 0 → de a c = 0 → (dv a b == 0) = (a.toList == b.toList) ∧ dv a c ≤ dv a b + dv b c) := Hlaw.out
  generalize dv a b = x at *
  generalize dv b c = z at *
  generalize dv a c = y at *
  generalize de a b = e1 at *
  generalize de b c = e2 at *
  generalize de a c = e3 at *
  by_cases h1 : e1 = 0
  · by_cases h3 : e3 = 0
    · by_cases h2 : e2 = 0
      · subst h1 h2 h3
        obtain ⟨q1, q2⟩ := Hlaw2.out rfl rfl
        have q3 : decide (0 ≤ x) = true := by simpa using hx0
        have q4 : decide (y ≤ x + z) = true := by simpa using q2
        have q5 : ((x == 0) == (a.toList == b.toList)) = true := by rw [q1]; simp
        clear Hlaw Hlaw2 q1 q2
        go_wp2
        go_ret
        exact ⟨rfl, hbw⟩
      · have q1 : (e2 != 0) = true := by simpa using h2
        clear Hlaw Hlaw2 h2
        subst h1 h3
        go_wp2
        go_ret
        exact ⟨by simp, hbw⟩
    · have q1 : (e3 != 0) = true := by simpa using h3
      clear Hlaw Hlaw2 h3
      subst h1
      go_wp2
      go_ret
      exact ⟨by simp, hbw⟩
  · have q1 : (e1 != 0) = true := by simpa using h1
    clear Hlaw Hlaw2 h1
    go_wp2
    go_ret
    exact ⟨by simp, hbw⟩

end Go.Proofs.Ytndnglaohjbapaa
