/- DiffMetric's walk: the cost is a metric and lies between the edit distance and twice the edit distance. -/
import Derived.Test.YtookbaaicpapnaaDiffLaws
import Derived.Test.YtookbaaicpapnaaDist
namespace Go.Proofs.Ytookbaaicpapnaa
open Go.RowKit
set_option linter.unusedVariables false

theorem diff_metric (a b c : ByteArray) (h1 : ce a b = 0) (h2 : ce b c = 0) (h3 : ce a c = 0) : (cv a b == 0) = (a.toList == b.toList) ∧ cv a c ≤ cv a b + cv b c ∧ dv a b ≤ cv a b ∧ cv a b ≤ 2 * dv a b := by
  have g1 := ce_zero h1
  have g2 := ce_zero h2
  have g3 := ce_zero h3
  rw [cv_ok g1, cv_ok g2, cv_ok g3, dv_ok g1.1 g1.2, ByteArray.toList_eq, ByteArray.toList_eq]
  have t1 := lcs_tri a.data.toList b.data.toList c.data.toList
  have t2 := lev_lcs a.data.toList b.data.toList
  obtain ⟨_, _, t3⟩ := lcs_lev a.data.toList b.data.toList
  have z := lev_zero a.data.toList b.data.toList
  rw [show a.data.toList.length = a.size from rfl, show b.data.toList.length = b.size from rfl] at t2 t3
  rw [show b.data.toList.length = b.size from rfl] at t1
  refine ⟨?_, by omega, by omega, by omega⟩
  rw [Bool.eq_iff_iff]
  simp only [beq_iff_eq]
  refine ⟨fun h => z.1 (by omega), fun h => ?_⟩
  have := z.2 h
  omega
theorem ce_de (a b : ByteArray) : ce a b = de a b := rfl

set_option maxRecDepth 100000 in
set_option maxHeartbeats 1000000 in
theorem diffMetric_walk (a b c : ByteArray) (ha : a.size ≤ 140737488351232) (hb : b.size ≤ 140737488351232) (hc : c.size ≤ 140737488351232) (w : World) :
    Calls Try.prog 9 #[.string a, .string b, .string c] w fun e w' => e = .returned (.bool true) ∧ Below w.heap.size w w' := by
  have hba : ∀ w, Calls Try.prog 34 #[.string b, .string a] w fun e w' => e = .returned (.tuple #[.int .i64 (cv a b), .int .i64 (ce a b)]) ∧ Below w.heap.size w w' := fun w => by
    rw [cv_comm a b, ce_comm a b]; exact cost_any b a w
  have hdi : ∀ w, Calls Try.prog 35 #[.string a, .string b] w fun e w' => e = .returned (.tuple #[.int .i64 (dv a b), .int .i64 (ce a b)]) ∧ Below w.heap.size w w' := dist_any a b
  have Hba := Lib.hid hba
  have Hdi := Lib.hid hdi
  have Hlaw := Lib.hid (diff_metric a b c)
  clear hba hdi
  obtain ⟨hx0, hx1⟩ := cv_bd a b
  obtain ⟨hz0, hz1⟩ := cv_bd b c
  obtain ⟨hy0, hy1⟩ := cv_bd a c
  obtain ⟨hd0, hd1⟩ := dv_bd a b
  go_enter Try.func9, Try.ntmps9
  go_wp2_with fail
  refine (diffs_any _).mono ?_
  rintro e w1 ⟨rfl, hb1⟩
  go_wp2_with fail
  refine (dists_any _).mono ?_
  rintro e w2 ⟨rfl, hb2⟩
  go_wp2_with fail
  refine (cost_any a b _).mono ?_
  rintro e w3 ⟨rfl, hb3⟩
  go_wp2_with fail
  refine (Hba.out _).mono ?_
  rintro e w4 ⟨rfl, hb4⟩
  go_wp2_with fail
  refine (cost_any b c _).mono ?_
  rintro e w5 ⟨rfl, hb5⟩
  go_wp2_with fail
  refine (cost_any a c _).mono ?_
  rintro e w6 ⟨rfl, hb6⟩
  go_wp2_with fail
  refine (Hdi.out _).mono ?_
  rintro e w7 ⟨rfl, hb7⟩
  have hbw := chain hb7 (chain hb6 (chain hb5 (chain hb4 (chain hb3 (chain hb2 hb1)))))
  clear hb1 hb2 hb3 hb4 hb5 hb6 hb7 Hba Hdi
  have Hlaw2 : Hid (ce a b = 0 → ce b c = 0 → ce a c = 0 → (cv a b == 0) = (a.toList == b.toList) ∧ cv a c ≤ cv a b + cv b c ∧ dv a b ≤ cv a b ∧ cv a b ≤ 2 * dv a b) := Hlaw.out
  clear Hlaw
  generalize cv a b = x at *
  generalize cv b c = z at *
  generalize cv a c = y at *
  generalize dv a b = d at *
  generalize ce a b = e1 at *
  generalize ce b c = e2 at *
  generalize ce a c = e3 at *
  by_cases h1 : e1 = 0
  · by_cases h2 : e2 = 0
    · by_cases h3 : e3 = 0
      · subst h1 h2 h3
        obtain ⟨q1, q2, q3, q4⟩ := Hlaw2.out rfl rfl rfl
        have p2 : decide (y ≤ x + z) = true := decide_eq_true q2
        have p3 : decide (d ≤ x) = true := decide_eq_true q3
        have p4 : decide (x ≤ 2 * d) = true := decide_eq_true q4
        have p5 : ((x == 0) == (a.toList == b.toList)) = true := by rw [q1]; simp
        clear Hlaw2 q1 q2 q3 q4
        go_wp2_with fail
        refine (good_fresh [0, 0] 2 2 rfl (by decide) _ _).mono ?_
        rintro e w8 ⟨rfl, hb8⟩
        have q0 : ([0, 0] : List Int).all (· == 0) = true := by decide
        go_wp2
        go_ret
        exact ⟨rfl, chain hb8 hbw⟩
      · have q1 : (e3 != 0) = true := by simpa using h3
        clear Hlaw2 h3
        subst h1 h2
        go_wp2
        go_ret
        exact ⟨by simp, hbw⟩
    · have q1 : (e2 != 0) = true := by simpa using h2
      clear Hlaw2 h2
      subst h1
      go_wp2
      go_ret
      exact ⟨by simp, hbw⟩
  · have q1 : (e1 != 0) = true := by simpa using h1
    clear Hlaw2 h1
    go_wp2
    go_ret
    exact ⟨by simp, hbw⟩
end Go.Proofs.Ytookbaaicpapnaa
