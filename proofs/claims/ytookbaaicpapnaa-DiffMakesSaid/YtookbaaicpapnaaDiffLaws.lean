/- The walk of 'diffs', and what Cost's numbers obey. -/
import Derived.Test.YtookbaaicpapnaaDiffWalk
import Derived.Test.YtookbaaicpapnaaEqual
import Derived.Test.YtookbaaicpapnaaGood
namespace Go.Proofs.Ytookbaaicpapnaa
open Go.RowKit
set_option linter.unusedVariables false

theorem diffs_lcs : lcs (ByteArray.mk #[97, 98, 99, 97, 98, 98, 97]).data.toList (ByteArray.mk #[99, 98, 97, 98, 97, 99]).data.toList = 4 := by decide +kernel
theorem diffs_lcs2 : lcs (ByteArray.mk #[97, 98]).data.toList (ByteArray.mk #[98]).data.toList = 1 := by decide +kernel
theorem diffs_make : makeE ⟨#[97, 98]⟩ ⟨#[98]⟩ = [(0, 1, ⟨#[]⟩)] := by decide +kernel

set_option maxHeartbeats 1000000 in
theorem diffs_any (w : World) : Calls Try.prog 32 #[] w fun e w' => e = .returned (.bool true) ∧ Below w.heap.size w w' := by
  have c1 : ∀ w, Calls Try.prog 34 #[.string ⟨#[97, 98, 99, 97, 98, 98, 97]⟩, .string ⟨#[99, 98, 97, 98, 97, 99]⟩] w fun e w' => e = .returned (.tuple #[.int .i64 5, .int .i64 0]) ∧ Below w.heap.size w w' := fun w =>
    (cost_any _ _ w).mono fun e w' ⟨he, hb⟩ => ⟨by rw [he, cv_ok ⟨by decide, by decide⟩, ce_ok ⟨by decide, by decide⟩, diffs_lcs]; rfl, hb⟩
  have c2 : ∀ w, Calls Try.prog 36 #[.string ⟨#[97, 98]⟩, .string ⟨#[98]⟩] w fun e w' => ∃ A c, e = .returned (.tuple #[.slice A 1 c, .int .i64 0]) ∧ Reads w' w'.heap.size A 1 3 (([(0, 1, ⟨#[]⟩)] : List Ed).flatMap cEdit) ∧ Below w.heap.size w w' := fun w => by
    have hc : cv ⟨#[97, 98]⟩ ⟨#[98]⟩ = 1 := by rw [cv_ok ⟨by decide, by decide⟩, diffs_lcs2]; rfl
    have he : ce ⟨#[97, 98]⟩ ⟨#[98]⟩ = 0 := ce_ok ⟨by decide, by decide⟩
    refine (make_ok ⟨#[97, 98]⟩ ⟨#[98]⟩ (by decide) (by decide) (by omega) w).mono fun e w' ⟨hb, h⟩ => ?_
    rcases h with ⟨_, _, A, c, h1, h2⟩ | ⟨_, h, _⟩ | ⟨h, _⟩
    · rw [diffs_make] at h1 h2
      exact ⟨A, c, h1, h2, hb⟩
    · omega
    · omega
  have C1 := Lib.hid c1
  have C2 := Lib.hid c2
  clear c1 c2
  have hbd := buildEdit
  go_enter Try.func32, Try.ntmps32
  go_wp2_with fail
  refine (C1.out _).mono ?_
  rintro e w1 ⟨rfl, hb1⟩
  go_wp2_with fail
  refine (C2.out _).mono ?_
  rintro e w2 ⟨A, c, rfl, hr, hb2⟩
  have hbw := chain hb2 hb1
  go_wp2_with fail
  refine (good_fresh [0, 0] 2 2 rfl (by decide) _ _).mono ?_
  rintro e w3 ⟨rfl, hb3⟩
  have q0 : ([0, 0] : List Int).all (· == 0) = true := by decide
  have hbw3 := chain hb3 hbw
  have hr3 := hr.below' hb3 (Nat.le_refl _)
  go_wp2_with fail
  refine (equalEdit_any A (some ⟨w3.heap.size, 0, none⟩) 1 1 c 1 w2.heap.size _ [(0, 1, ⟨#[]⟩)] [(0, 1, ⟨#[]⟩)] _ (by decide) (by decide) rfl rfl (hr3.below' ((Below.refl _ _).alloc (Nat.le_refl _) _) hb3.size) (Reads.made w3 #[.int .i64 0, .int .i64 1, .string ⟨#[]⟩] _ 1 3 rfl)).mono ?_
  rintro e w4 ⟨rfl, hb4⟩
  go_wp2
  go_ret
  exact ⟨by simp, chain (((Below.refl _ _).alloc (Nat.le_refl _) _).trans (hb4.mono (by simp))) hbw3⟩

theorem sub_meet {α : Type} [DecidableEq α] : ∀ {b u v : List α}, u.Sublist b → v.Sublist b → ∃ t : List α, t.Sublist u ∧ t.Sublist v ∧ u.length + v.length ≤ b.length + t.length
  | _, _, _, .slnil, .slnil => ⟨[], List.Sublist.refl _, List.Sublist.refl _, Nat.le_refl _⟩
  | _, _, _, .cons z hu, .cons _ hv => by
    obtain ⟨t, h1, h2, h3⟩ := sub_meet hu hv
    exact ⟨t, h1, h2, by simp only [List.length_cons] at h3 ⊢; omega⟩
  | _, _, _, .cons z hu, .cons_cons _ hv => by
    obtain ⟨t, h1, h2, h3⟩ := sub_meet hu hv
    exact ⟨t, h1, h2.trans (List.sublist_cons_self _ _), by simp only [List.length_cons] at h3 ⊢; omega⟩
  | _, _, _, .cons_cons z hu, .cons _ hv => by
    obtain ⟨t, h1, h2, h3⟩ := sub_meet hu hv
    exact ⟨t, h1.trans (List.sublist_cons_self _ _), h2, by simp only [List.length_cons] at h3 ⊢; omega⟩
  | _, _, _, .cons_cons z hu, .cons_cons _ hv => by
    obtain ⟨t, h1, h2, h3⟩ := sub_meet hu hv
    exact ⟨z :: t, h1.cons_cons _, h2.cons_cons _, by simp only [List.length_cons] at h3 ⊢; omega⟩
theorem lcs_tri {α : Type} [DecidableEq α] (a b c : List α) : lcs a b + lcs b c ≤ b.length + lcs a c := by
  obtain ⟨u, hu1, hu2, hu3⟩ := lcs_wit a b
  obtain ⟨v, hv1, hv2, hv3⟩ := lcs_wit b c
  obtain ⟨t, h1, h2, h3⟩ := sub_meet hu2 hv1
  have := lcs_max a c t (h1.trans hu1) (h2.trans hv2)
  omega

theorem cv_comm (a b : ByteArray) : cv a b = cv b a := by
  unfold cv
  rw [lcs_comm]
  by_cases h : a.size ≤ 200 ∧ b.size ≤ 200
  · rw [if_pos h, if_pos h.symm]; omega
  · rw [if_neg h, if_neg (fun h' => h h'.symm)]
theorem ce_comm (a b : ByteArray) : ce a b = ce b a := by
  unfold ce
  by_cases h : a.size ≤ 200 ∧ b.size ≤ 200
  · rw [if_pos h, if_pos h.symm]
  · rw [if_neg h, if_neg (fun h' => h h'.symm)]
theorem ce_zero {a b : ByteArray} (h : ce a b = 0) : a.size ≤ 200 ∧ b.size ≤ 200 := by
  unfold ce at h
  by_cases h' : a.size ≤ 200 ∧ b.size ≤ 200
  · exact h'
  · rw [if_neg h'] at h; cases h
end Go.Proofs.Ytookbaaicpapnaa
