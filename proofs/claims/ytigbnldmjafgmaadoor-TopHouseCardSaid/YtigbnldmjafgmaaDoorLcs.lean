/- Plain: the length of a longest common subsequence. -/
import Derived.Test.YtigbnldmjafgmaaDoorPlain
import Derived.Test.YtigbnldmjafgmaaDoorLev
namespace Go.Proofs.YtigbnldmjafgmaaDoor
set_option linter.unusedVariables false

section
variable {α : Type} [DecidableEq α]
def lcsRow (x : α) (f : List α → Nat) : List α → Nat
  | [] => 0
  | y :: b => if x = y then f b + 1 else max (f (y :: b)) (lcsRow x f b)
/-- How much both have in common, in order. -/
def lcs : List α → List α → Nat
  | [] => fun _ => 0
  | x :: a => lcsRow x (lcs a)
theorem lcs_nil_left (b : List α) : lcs [] b = 0 := rfl
theorem lcs_nil_right (a : List α) : lcs a [] = 0 := by cases a <;> rfl
theorem lcs_cons (x y : α) (a b : List α) : lcs (x :: a) (y :: b) = if x = y then lcs a b + 1 else max (lcs a (y :: b)) (lcs (x :: a) b) := rfl
omit [DecidableEq α] in
theorem sub_of_cons {w a : List α} {z x : α} (h : (z :: w).Sublist (x :: a)) : w.Sublist a ∧ (z ≠ x → (z :: w).Sublist a) := by
  cases h with
  | cons _ h => exact ⟨(List.sublist_cons_self z w).trans h, fun _ => h⟩
  | cons_cons _ h => exact ⟨h, fun hn => absurd rfl hn⟩
theorem lcs_max : ∀ (a b w : List α), w.Sublist a → w.Sublist b → w.length ≤ lcs a b
  | [], b, w, ha, hb => by rw [List.sublist_nil.1 ha]; exact Nat.zero_le _
  | x :: a, [], w, ha, hb => by rw [List.sublist_nil.1 hb]; exact Nat.zero_le _
  | x :: a, y :: b, [], ha, hb => Nat.zero_le _
  | x :: a, y :: b, z :: w, ha, hb => by
    rw [lcs_cons]
    obtain ⟨h1, h2⟩ := sub_of_cons ha
    obtain ⟨h3, h4⟩ := sub_of_cons hb
    by_cases e : x = y
    · rw [if_pos e]
      have := lcs_max a b w h1 h3
      rw [List.length_cons]; omega
    · rw [if_neg e]
      by_cases e1 : z = x
      · have := lcs_max (x :: a) b (z :: w) ha (h4 (by rw [e1]; exact e))
        omega
      · have := lcs_max a (y :: b) (z :: w) (h2 e1) hb
        omega
termination_by a b => a.length + b.length
theorem lcs_wit : ∀ a b : List α, ∃ w : List α, w.Sublist a ∧ w.Sublist b ∧ w.length = lcs a b
  | [], b => ⟨[], List.Sublist.refl _, List.nil_sublist _, rfl⟩
  | x :: a, [] => ⟨[], List.nil_sublist _, List.Sublist.refl _, rfl⟩
  | x :: a, y :: b => by
    rw [lcs_cons]
    by_cases e : x = y
    · rw [if_pos e]
      obtain ⟨w, h1, h2, h3⟩ := lcs_wit a b
      subst e
      exact ⟨x :: w, h1.cons_cons x, h2.cons_cons x, by rw [List.length_cons, h3]⟩
    · rw [if_neg e]
      rcases Nat.le_total (lcs (x :: a) b) (lcs a (y :: b)) with h | h
      · obtain ⟨w, h1, h2, h3⟩ := lcs_wit a (y :: b)
        exact ⟨w, h1.cons x, h2, by omega⟩
      · obtain ⟨w, h1, h2, h3⟩ := lcs_wit (x :: a) b
        exact ⟨w, h1, h2.cons y, by omega⟩
termination_by a b => a.length + b.length

theorem lcs_le_of {a b c d : List α} (h : ∀ w : List α, w.Sublist a → w.Sublist b → ∃ u : List α, u.Sublist c ∧ u.Sublist d ∧ w.length ≤ u.length) : lcs a b ≤ lcs c d := by
  obtain ⟨w, h1, h2, h3⟩ := lcs_wit a b
  obtain ⟨u, g1, g2, g3⟩ := h w h1 h2
  have := lcs_max c d u g1 g2
  omega
theorem lcs_comm (a b : List α) : lcs a b = lcs b a :=
  Nat.le_antisymm (lcs_le_of fun w h1 h2 => ⟨w, h2, h1, Nat.le_refl _⟩) (lcs_le_of fun w h1 h2 => ⟨w, h2, h1, Nat.le_refl _⟩)
theorem lcs_rev_le (a b : List α) : lcs a b ≤ lcs a.reverse b.reverse := lcs_le_of fun w h1 h2 => ⟨w.reverse, List.reverse_sublist.2 h1, List.reverse_sublist.2 h2, by simp⟩
theorem lcs_reverse (a b : List α) : lcs a.reverse b.reverse = lcs a b := by
  refine Nat.le_antisymm ?_ (lcs_rev_le a b)
  have := lcs_rev_le a.reverse b.reverse
  rwa [List.reverse_reverse, List.reverse_reverse] at this
theorem lcs_le_left (a b : List α) : lcs a b ≤ a.length := by
  obtain ⟨w, h1, _, h3⟩ := lcs_wit a b
  have := h1.length_le; omega
theorem lcs_le_right (a b : List α) : lcs a b ≤ b.length := by rw [lcs_comm]; exact lcs_le_left b a
theorem lcs_full (a b : List α) : lcs a b = a.length ↔ a.Sublist b := by
  constructor
  · intro h
    obtain ⟨w, h1, h2, h3⟩ := lcs_wit a b
    rw [← h1.eq_of_length (by omega)]; exact h2
  · intro h
    have := lcs_max a b a (List.Sublist.refl _) h
    have := lcs_le_left a b
    omega
theorem lcs_append (a b c d : List α) : lcs a b + lcs c d ≤ lcs (a ++ c) (b ++ d) := by
  obtain ⟨w, h1, h2, h3⟩ := lcs_wit a b
  obtain ⟨u, g1, g2, g3⟩ := lcs_wit c d
  have := lcs_max (a ++ c) (b ++ d) (w ++ u) (h1.append g1) (h2.append g2)
  rw [List.length_append] at this
  omega
theorem lcs_snoc (a b : List α) (x : α) : lcs a b ≤ lcs (a ++ [x]) b ∧ lcs (a ++ [x]) b ≤ lcs a b + 1 := by
  constructor
  · have := lcs_append a b [x] []
    rw [List.append_nil] at this; omega
  · obtain ⟨w, h1, h2, h3⟩ := lcs_wit (a ++ [x]) b
    obtain ⟨u, v, rfl, g1, g2⟩ := List.sublist_append_iff.1 h1
    have := lcs_max a b u g1 ((List.sublist_append_left _ _).trans h2)
    have := g2.length_le
    rw [List.length_append] at h3
    rw [List.length_singleton] at this
    omega
theorem lcs_snoc_both (a b : List α) (x : α) : lcs (a ++ [x]) (b ++ [x]) = lcs a b + 1 := by
  rw [← lcs_reverse, List.reverse_append, List.reverse_append]
  show lcs (x :: a.reverse) (x :: b.reverse) = _
  rw [lcs_cons, if_pos rfl, lcs_reverse]

/-- Deleting. -/
theorem lev_sub : ∀ {w a : List α}, w.Sublist a → lev w a + w.length ≤ a.length
  | _, _, .slnil => by simp [lev_nil_left]
  | _, _, .cons (l₁ := w) (l₂ := a) x h => by
    have := lev_sub h
    have := lev_right_le x w a
    rw [List.length_cons]; omega
  | _, _, .cons_cons (l₁ := w) (l₂ := a) x h => by
    have := lev_sub h
    rw [lev_cons_cons, List.length_cons, List.length_cons]; omega
theorem lev_lcs (a b : List α) : lev a b + 2 * lcs a b ≤ a.length + b.length := by
  obtain ⟨w, h1, h2, h3⟩ := lcs_wit a b
  have k1 := lev_sub h1
  have k2 := lev_sub h2
  have k3 := lev_tri a w b
  rw [lev_comm a w] at k3
  omega
theorem Al.common {a b : List α} {n : Nat} (h : Al a b n) : ∃ w : List α, w.Sublist a ∧ w.Sublist b ∧ a.length ≤ w.length + n ∧ b.length ≤ w.length + n ∧ a.length + b.length ≤ 2 * w.length + 2 * n := by
  induction h using Al.ind with
  | nil => exact ⟨[], .slnil, .slnil, by simp, by simp, by simp⟩
  | both x y h ih =>
    obtain ⟨w, h1, h2, h3, h4, h5⟩ := ih
    by_cases e : x = y
    · subst e
      refine ⟨x :: w, h1.cons_cons x, h2.cons_cons x, ?_, ?_, ?_⟩ <;> simp only [List.length_cons] <;> omega
    · refine ⟨w, h1.cons x, h2.cons y, ?_, ?_, ?_⟩ <;> simp only [List.length_cons, ne1, if_neg e] <;> omega
  | left x h ih =>
    obtain ⟨w, h1, h2, h3, h4, h5⟩ := ih
    refine ⟨w, h1.cons x, h2, ?_, ?_, ?_⟩ <;> (try simp only [List.length_cons]) <;> omega
  | right y h ih =>
    obtain ⟨w, h1, h2, h3, h4, h5⟩ := ih
    refine ⟨w, h1, h2.cons y, ?_, ?_, ?_⟩ <;> (try simp only [List.length_cons]) <;> omega
theorem lcs_lev (a b : List α) : a.length ≤ lcs a b + lev a b ∧ b.length ≤ lcs a b + lev a b ∧ a.length + b.length ≤ 2 * lcs a b + 2 * lev a b := by
  obtain ⟨w, h1, h2, h3, h4, h5⟩ := (lev_al a b).common
  have := lcs_max a b w h1 h2
  omega
end

end Go.Proofs.YtigbnldmjafgmaaDoor
