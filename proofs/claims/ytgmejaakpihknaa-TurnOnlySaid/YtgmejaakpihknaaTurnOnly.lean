/- TurnOnly's walk: an inverted transform is transformed back to the same pair. -/
import Derived.Test.YtgmejaakpihknaaTurnGet
namespace Go.Proofs.Ytgmejaakpihknaa
open Go.RowKit
set_option linter.unusedVariables false

theorem candB_back {t : ByteArray} {a : Int} (h : getOk t a) : putT (candB t a.toNat) = t ∧ putA (candB t a.toNat) = a ∧ putE (candB t a.toNat) = 0 := by
  refine ⟨h.2.1, h.2.2, ?_⟩
  unfold putE
  rw [candB_size, if_pos h.1.1]
theorem candB_only {t : ByteArray} {i k : Int} (hi : getOk t i) (hk : getOk t k) : candB t i.toNat = candB t k.toNat ↔ i = k := by
  refine ⟨fun h => ?_, fun h => by rw [h]⟩
  have h1 := hi.2.2
  rw [h] at h1
  exact h1.symm.trans hk.2.2
/-- The test at the start: banana. -/
theorem banana_ok : getOk ⟨#[110, 110, 98, 97, 97, 97]⟩ 3 ∧ candB ⟨#[110, 110, 98, 97, 97, 97]⟩ (3 : Int).toNat = ⟨#[98, 97, 110, 97, 110, 97]⟩ := by
  have hO : ordB (⟨#[110, 110, 98, 97, 97, 97]⟩ : ByteArray).data.toList = [3, 4, 5, 2, 0, 1] := (ordB_is _).unique ⟨by decide, by unfold ltB; decide⟩
  have e : candB ⟨#[110, 110, 98, 97, 97, 97]⟩ (3 : Int).toNat = ⟨#[98, 97, 110, 97, 110, 97]⟩ := by
    unfold candB
    rw [hO]
    decide
  have hB : ordOf (⟨#[98, 97, 110, 97, 110, 97]⟩ : ByteArray).data.toList = [5, 3, 1, 0, 4, 2] := (ordOf_is _).unique ⟨by decide, by unfold ltR; decide⟩
  refine ⟨⟨⟨by decide, by decide, by decide⟩, ?_⟩, e⟩
  rw [e]
  unfold putT putA tOf atOf
  rw [hB]
  decide

set_option maxRecDepth 100000 in
set_option maxHeartbeats 4000000 in
theorem turnOnly_walk (t : ByteArray) (i k : Int) (hts : t.size ≤ 140737488351232) (hi : (Lit.int .i64 i).wf = true) (hk : (Lit.int .i64 k).wf = true) (w : World) :
    Calls Try.prog 7 #[.string t, .int .i64 i, .int .i64 k] w fun e w' => e = .returned (.bool true) ∧ Below w.heap.size w w' := by
  have HB := Lib.hid banana_ok
  have HG1 := Lib.hid (turnGet_any t i hts)
  have HG2 := Lib.hid (turnGet_any t k hts)
  have hmid : ∀ w1, Below w.heap.size w w1 → True := fun _ _ => trivial
  go_enter Try.func7, Try.ntmps7
  go_wp2_with fail
  refine (turnGet_any ⟨#[110, 110, 98, 97, 97, 97]⟩ 3 (by decide) _).mono ?_
  rintro e w1 ⟨hb1, ⟨_, rfl⟩ | ⟨hno, _⟩⟩
  case inr => exact absurd HB.out.1 hno
  rw [HB.out.2]
  go_wp2_with fail
  refine (HG1.out _).mono ?_
  rintro e w2 ⟨hb2, ⟨h1, rfl⟩ | ⟨h1, E1, hE1, rfl⟩⟩
  · have hb2 := chain hb2 hb1
    go_wp2_with fail
    refine (HG2.out _).mono ?_
    rintro e w3 ⟨hb3, ⟨h2, rfl⟩ | ⟨h2, E2, hE2, rfl⟩⟩
    · have hb3 := chain hb3 hb2
      obtain ⟨b1, b2, b3⟩ := candB_back h1
      have hon := candB_only h1 h2
      have hP := turnPut_any (candB t i.toNat)
      rw [b1, b2, b3] at hP
      have HP := Lib.hid hP
      have q1 : (t.toList == t.toList) = true := by simp
      have q2 : (i == i) = true := by simp
      have q3 : ((candB t i.toNat).toList == (candB t k.toNat).toList) = (i == k) := by
        by_cases h : i = k
        · subst h; simp
        · rw [beq_eq_false_iff_ne.2 h, beq_eq_false_iff_ne]
          intro hh
          apply h
          apply hon.1
          have := hh
          exact str_ext (by rw [← ByteArray.toList_eq, ← ByteArray.toList_eq]; exact this)
      have q4 : ((i == k) == (i == k)) = true := by simp
      clear b1 b2 b3 hon hP h1 h2 HG1 HG2
      generalize candB t i.toNat = C at *
      generalize candB t k.toNat = D at *
      go_wp2_with fail
      refine (HP.out _).mono ?_
      rintro e w4 ⟨rfl, hb4⟩
      have hb4 := chain hb4 hb3
      have Q3 := Lib.hid q3
      clear q3 q4
      go_wp2
      all_goals (go_ret; exact ⟨by first | (simp; done) | (simp; exact Q3.out) | (simp [Q3.out]; done), hb4⟩)
    · have hb3 := chain hb3 hb2
      have q1 : (E2 != 0) = true := by simpa using hE2
      have q2 : (E2 == 0) = false := by simpa using hE2
      go_wp2
      all_goals (go_ret; exact ⟨by simp, hb3⟩)
  · have hb2 := chain hb2 hb1
    have q1 : (E1 != 0) = true := by simpa using hE1
    have q1' : (E1 == 0) = false := by simpa using hE1
    go_wp2_with fail
    refine (HG2.out _).mono ?_
    rintro e w3 ⟨hb3, ⟨h2, rfl⟩ | ⟨h2, E2, hE2, rfl⟩⟩
    · have hb3 := chain hb3 hb2
      go_wp2
      all_goals (go_ret; exact ⟨by simp, hb3⟩)
    · have hb3 := chain hb3 hb2
      have q2 : (E2 == 0) = false := by simpa using hE2
      go_wp2
      all_goals (go_ret; exact ⟨by simp, hb3⟩)
end Go.Proofs.Ytgmejaakpihknaa
