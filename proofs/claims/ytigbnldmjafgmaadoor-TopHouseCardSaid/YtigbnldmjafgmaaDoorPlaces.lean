/- Plain: the places of one longest common subsequence. -/
import Derived.Test.YtigbnldmjafgmaaDoorLcs
namespace Go.Proofs.YtigbnldmjafgmaaDoor
set_option linter.unusedVariables false

/-- What is left of both, from two places on. -/
def pl (a b : List UInt8) (i k : Nat) : Nat := lcs (a.drop i) (b.drop k)
theorem pl_end_left (a b : List UInt8) (i k : Nat) (h : a.length ≤ i) : pl a b i k = 0 := by unfold pl; rw [List.drop_of_length_le h]; rfl
theorem pl_end_right (a b : List UInt8) (i k : Nat) (h : b.length ≤ k) : pl a b i k = 0 := by unfold pl; rw [List.drop_of_length_le h, lcs_nil_right]
theorem pl_step (a b : List UInt8) (i k : Nat) (hi : i < a.length) (hk : k < b.length) : pl a b i k = if a.getD i 0 = b.getD k 0 then pl a b (i + 1) (k + 1) + 1 else max (pl a b (i + 1) k) (pl a b i (k + 1)) := by
  unfold pl
  rw [drop_getD a i 0 hi, drop_getD b k 0 hk, lcs_cons]
theorem pl_le (a b : List UInt8) (i k : Nat) : pl a b i k ≤ a.length := by
  have := lcs_le_left (a.drop i) (b.drop k)
  rw [List.length_drop] at this
  unfold pl; omega
theorem pl_pos {a b : List UInt8} {i k : Nat} (h : 0 < pl a b i k) : i < a.length ∧ k < b.length := by
  refine ⟨?_, ?_⟩
  · rcases Nat.lt_or_ge i a.length with h1 | h1
    · exact h1
    · rw [pl_end_left a b i k h1] at h; omega
  · rcases Nat.lt_or_ge k b.length with h1 | h1
    · exact h1
    · rw [pl_end_right a b i k h1] at h; omega

/-- The walk through the table, so many steps at most. -/
def pw (a b : List UInt8) : Nat → Nat → Nat → List (Nat × Nat)
  | 0, _, _ => []
  | f + 1, i, k =>
    if pl a b i k = 0 then []
    else if a.getD i 0 = b.getD k 0 then (i, k) :: pw a b f (i + 1) (k + 1)
    else if pl a b i (k + 1) ≤ pl a b (i + 1) k then pw a b f (i + 1) k
    else pw a b f i (k + 1)
/-- The places that are told. -/
def placesOf (a b : List UInt8) : List (Nat × Nat) := pw a b (a.length + b.length) 0 0

structure Matches (a b : List UInt8) (i k : Nat) (R : List (Nat × Nat)) : Prop where
  len : R.length = pl a b i k
  mem : ∀ p ∈ R, i ≤ p.1 ∧ p.1 < a.length ∧ k ≤ p.2 ∧ p.2 < b.length ∧ a.getD p.1 0 = b.getD p.2 0
  rise : R.Pairwise fun p q => p.1 < q.1 ∧ p.2 < q.2
theorem pw_ok (a b : List UInt8) : ∀ f i k, a.length + b.length ≤ f + i + k → Matches a b i k (pw a b f i k)
  | 0, i, k, h => by
    have h0 : pl a b i k = 0 := by
      rcases Nat.lt_or_ge i a.length with h1 | h1
      · exact pl_end_right a b i k (by omega)
      · exact pl_end_left a b i k h1
    exact ⟨by rw [h0]; rfl, fun p hp => by simp [pw] at hp, by simp [pw]⟩
  | f + 1, i, k, h => by
    rw [pw]
    by_cases h0 : pl a b i k = 0
    · rw [if_pos h0]
      exact ⟨by rw [h0]; rfl, fun p hp => by simp at hp, List.Pairwise.nil⟩
    · rw [if_neg h0]
      obtain ⟨hi, hk⟩ := pl_pos (a := a) (b := b) (i := i) (k := k) (by omega)
      have hs := pl_step a b i k hi hk
      by_cases h1 : a.getD i 0 = b.getD k 0
      · rw [if_pos h1]
        rw [if_pos h1] at hs
        obtain ⟨g1, g2, g3⟩ := pw_ok a b f (i + 1) (k + 1) (by omega)
        refine ⟨by rw [List.length_cons, g1, hs], fun p hp => ?_, List.pairwise_cons.2 ⟨fun q hq => ?_, g3⟩⟩
        · rcases List.mem_cons.1 hp with rfl | hp
          · exact ⟨Nat.le_refl _, hi, Nat.le_refl _, hk, h1⟩
          · obtain ⟨e1, e2, e3, e4, e5⟩ := g2 p hp
            exact ⟨by omega, e2, by omega, e4, e5⟩
        · obtain ⟨e1, e2, e3, e4, e5⟩ := g2 q hq
          exact ⟨by show i < q.1; omega, by show k < q.2; omega⟩
      · rw [if_neg h1]
        rw [if_neg h1] at hs
        by_cases h2 : pl a b i (k + 1) ≤ pl a b (i + 1) k
        · rw [if_pos h2]
          obtain ⟨g1, g2, g3⟩ := pw_ok a b f (i + 1) k (by omega)
          refine ⟨by rw [g1]; omega, fun p hp => ?_, g3⟩
          obtain ⟨e1, e2, e3, e4, e5⟩ := g2 p hp
          exact ⟨by omega, e2, e3, e4, e5⟩
        · rw [if_neg h2]
          obtain ⟨g1, g2, g3⟩ := pw_ok a b f i (k + 1) (by omega)
          refine ⟨by rw [g1]; omega, fun p hp => ?_, g3⟩
          obtain ⟨e1, e2, e3, e4, e5⟩ := g2 p hp
          exact ⟨e1, e2, by omega, e4, e5⟩
theorem places_ok (a b : List UInt8) : Matches a b 0 0 (placesOf a b) := pw_ok a b _ 0 0 (by omega)
theorem places_length (a b : List UInt8) : (placesOf a b).length = lcs a b := (places_ok a b).len

/-- Rising places of a list: a subsequence. -/
theorem rising_sub (a : List UInt8) : ∀ (R : List Nat) (i : Nat), (∀ p ∈ R, i ≤ p ∧ p < a.length) → R.Pairwise (· < ·) → (R.map fun p => a.getD p 0).Sublist (a.drop i)
  | [], i, _, _ => List.nil_sublist _
  | p :: R, i, h, hr => by
    obtain ⟨h1, h2⟩ := List.pairwise_cons.1 hr
    obtain ⟨hp1, hp2⟩ := h p (by simp)
    have ih := rising_sub a R (p + 1) (fun q hq => ⟨h1 q hq, (h q (by simp [hq])).2⟩) h2
    have e : (a.drop p).Sublist (a.drop i) := by
      have : a.drop p = (a.drop i).drop (p - i) := by rw [List.drop_drop]; congr 1; omega
      rw [this]; exact List.drop_sublist _ _
    refine List.Sublist.trans ?_ e
    rw [drop_getD a p 0 hp2, List.map_cons]
    exact ih.cons_cons _
theorem places_sub (a b : List UInt8) : ((placesOf a b).map fun p => a.getD p.1 0).Sublist a ∧ ((placesOf a b).map fun p => b.getD p.2 0).Sublist b ∧ ((placesOf a b).map fun p => a.getD p.1 0) = (placesOf a b).map fun p => b.getD p.2 0 := by
  obtain ⟨h1, h2, h3⟩ := places_ok a b
  refine ⟨?_, ?_, List.map_congr_left fun p hp => (h2 p hp).2.2.2.2⟩
  · have := rising_sub a ((placesOf a b).map Prod.fst) 0 (fun p hp => by obtain ⟨q, hq, rfl⟩ := List.mem_map.1 hp; exact ⟨Nat.zero_le _, (h2 q hq).2.1⟩) (by rw [List.pairwise_map]; exact h3.imp fun h => h.1)
    rw [List.map_map] at this
    exact this
  · have := rising_sub b ((placesOf a b).map Prod.snd) 0 (fun p hp => by obtain ⟨q, hq, rfl⟩ := List.mem_map.1 hp; exact ⟨Nat.zero_le _, (h2 q hq).2.2.2.1⟩) (by rw [List.pairwise_map]; exact h3.imp fun h => h.2)
    rw [List.map_map] at this
    exact this

/-- The greedy test. -/
theorem sub_step (x y : UInt8) (a b : List UInt8) : (x :: a).Sublist (y :: b) ↔ if x = y then a.Sublist b else (x :: a).Sublist b := by
  by_cases e : x = y
  · rw [if_pos e]
    subst e
    exact ⟨fun h => (sub_of_cons h).1, fun h => h.cons_cons x⟩
  · rw [if_neg e]
    exact ⟨fun h => (sub_of_cons h).2 e, fun h => h.cons y⟩

end Go.Proofs.YtigbnldmjafgmaaDoor
