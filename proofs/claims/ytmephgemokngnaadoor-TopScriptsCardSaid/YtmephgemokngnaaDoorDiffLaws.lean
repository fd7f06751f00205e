/- The walk of 'diffs', and what Cost's numbers obey. -/
import Derived.Test.YtmephgemokngnaaDoorDiffWalk
import Derived.Test.YtmephgemokngnaaDoorEqual
import Derived.Test.YtmephgemokngnaaDoorGood
namespace Go.Proofs.YtmephgemokngnaaDoor
open Go.RowKit
set_option linter.unusedVariables false

theorem diffs_lcs : lcs (ByteArray.mk #[97, 98, 99, 97, 98, 98, 97]).data.toList (ByteArray.mk #[99, 98, 97, 98, 97, 99]).data.toList = 4 := by decide +kernel
theorem diffs_lcs2 : lcs (ByteArray.mk #[97, 98]).data.toList (ByteArray.mk #[98]).data.toList = 1 := by decide +kernel
theorem diffs_make : makeE ⟨#[97, 98]⟩ ⟨#[98]⟩ = [(0, 1, ⟨#[]⟩)] := by decide +kernel


theorem sub_meet {α : Type} [DecidableEq α] : ∀ {b u v : List α}, u.Sublist b → v.Sublist b → ∃ t : List α, t.Sublist u ∧ t.Sublist v ∧ u.length + v.length ≤ b.length + t.length
  | _, _, _, .slnil, .slnil => ⟨[], List.Sublist.refl _, List.Sublist.refl _, Nat.le_refl _⟩
  | _, _, _, .cons z hu, .cons _ hv => by
    obtain ⟨t, h1, h2, h3⟩ := sub_meet hu hv
    exact ⟨t, h1, h2, by simp only [List.length_cons] at h3 ⊢; omega⟩
  | _, _, _, .cons z hu, .cons_cons _ hv => by
    obtain ⟨t, h1, h2, h3⟩ := sub_meet hu hv
    exact ⟨t, h1, h2.trans (List.sublist_cons_self _ _), by simp only [List.length_cons] at h3 ⊢; omega⟩
  | _, _, _, .cons_cons z hu, .cons _ hv => by
    obtain ⟨t, h1, h2, h3⟩ := sub_meet hu hv
    exact ⟨t, h1.trans (List.sublist_cons_self _ _), h2, by simp only [List.length_cons] at h3 ⊢; omega⟩
  | _, _, _, .cons_cons z hu, .cons_cons _ hv => by
    obtain ⟨t, h1, h2, h3⟩ := sub_meet hu hv
    exact ⟨z :: t, h1.cons_cons _, h2.cons_cons _, by simp only [List.length_cons] at h3 ⊢; omega⟩
theorem lcs_tri {α : Type} [DecidableEq α] (a b c : List α) : lcs a b + lcs b c ≤ b.length + lcs a c := by
  obtain ⟨u, hu1, hu2, hu3⟩ := lcs_wit a b
  obtain ⟨v, hv1, hv2, hv3⟩ := lcs_wit b c
  obtain ⟨t, h1, h2, h3⟩ := sub_meet hu2 hv1
  have := lcs_max a c t (h1.trans hu1) (h2.trans hv2)
  omega

theorem cv_comm (a b : ByteArray) : cv a b = cv b a := by
  unfold cv
  rw [lcs_comm]
  by_cases h : a.size ≤ 200 ∧ b.size ≤ 200
  · rw [if_pos h, if_pos h.symm]; omega
  · rw [if_neg h, if_neg (fun h' => h h'.symm)]
theorem ce_comm (a b : ByteArray) : ce a b = ce b a := by
  unfold ce
  by_cases h : a.size ≤ 200 ∧ b.size ≤ 200
  · rw [if_pos h, if_pos h.symm]
  · rw [if_neg h, if_neg (fun h' => h h'.symm)]
theorem ce_zero {a b : ByteArray} (h : ce a b = 0) : a.size ≤ 200 ∧ b.size ≤ 200 := by
  unfold ce at h
  by_cases h' : a.size ≤ 200 ∧ b.size ≤ 200
  · exact h'
  · rw [if_neg h'] at h; cases h
end Go.Proofs.YtmephgemokngnaaDoor
