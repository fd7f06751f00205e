/- Plain: the longest text that stands twice in a word, out of the order of its ends. -/
import Derived.Test.YtkclcjgkicikfaaSuffixQ
import Derived.Test.YtkclcjgkicikfaaOccP
namespace Go.Proofs.Ytkclcjgkicikfaa
set_option linter.unusedVariables false

/-- The longest of what the first k ranks begin alike with the rank ahead. -/
structure BestT (s : List UInt8) (o : List Nat) (k : Nat) (t : List UInt8) : Prop where
  most : ∀ j, j < k → lcpR s o j ≤ t.length
  at_ : t = [] ∨ ∃ j, j < k ∧ 0 < lcpR s o j ∧ t = (s.drop (o.getD j 0)).take (lcpR s o j)
theorem BestT.start (s : List UInt8) (o : List Nat) : BestT s o 0 [] := ⟨fun j h => by omega, .inl rfl⟩
theorem lcpR_take_len {s : List UInt8} {o : List Nat} (j : Nat) : ((s.drop (o.getD j 0)).take (lcpR s o j)).length = lcpR s o j := by
  rw [List.length_take, List.length_drop]; exact Nat.min_eq_left (lcpR_le s o j)
theorem BestT.new {s : List UInt8} {o : List Nat} {k : Nat} {t : List UInt8} (h : BestT s o k t) (hn : t.length < lcpR s o k) : BestT s o (k + 1) ((s.drop (o.getD k 0)).take (lcpR s o k)) := by
  refine ⟨fun j hj => ?_, .inr ⟨k, by omega, by omega, rfl⟩⟩
  rw [lcpR_take_len]
  rcases Nat.lt_or_ge j k with h1 | h1
  · exact Nat.le_trans (h.most j h1) (Nat.le_of_lt hn)
  · obtain rfl : j = k := by omega
    exact Nat.le_refl _
theorem BestT.stay {s : List UInt8} {o : List Nat} {k : Nat} {t : List UInt8} (h : BestT s o k t) (hn : ¬ t.length < lcpR s o k) : BestT s o (k + 1) t := by
  refine ⟨fun j hj => ?_, ?_⟩
  · rcases Nat.lt_or_ge j k with h1 | h1
    · exact h.most j h1
    · obtain rfl : j = k := by omega
      omega
  · rcases h.at_ with h1 | ⟨j, h1, h2⟩
    · exact .inl h1
    · exact .inr ⟨j, by omega, h2⟩
/-- It stands at two places, and nothing longer does. -/
structure IsTwice (s t : List UInt8) : Prop where
  twice : t = [] ∨ ∃ i k, i < s.length ∧ k < s.length ∧ i ≠ k ∧ t <+: s.drop i ∧ t <+: s.drop k
  most : ∀ i k n, i < s.length → k < s.length → i ≠ k → i + n ≤ s.length → k + n ≤ s.length → (s.drop i).take n = (s.drop k).take n → n ≤ t.length
theorem BestT.twice {s : List UInt8} {o : List Nat} {t : List UInt8} (ho : IsSOrd s o) (h : BestT s o s.length t) : IsTwice s t := by
  refine ⟨?_, ?_⟩
  · rcases h.at_ with h1 | ⟨j, h1, h2, rfl⟩
    · exact .inl h1
    · have hj0 : j ≠ 0 := fun e => by subst e; unfold lcpR at h2; rw [if_pos rfl] at h2; omega
      refine .inr ⟨o.getD j 0, o.getD (j - 1) 0, ho.at_lt h1, ho.at_lt (by omega), fun e => ?_, List.take_prefix _ _, ?_⟩
      · have := ho.inj h1 (by omega) e; omega
      · have e : lcpR s o j = lcp (s.drop (o.getD (j - 1) 0)) (s.drop (o.getD j 0)) := by unfold lcpR; rw [if_neg hj0]
        rw [e, ← lcp_take]
        exact List.take_prefix _ _
  · have key : ∀ (i k n : Nat), i < s.length → k < s.length → i < k → lcp (s.drop (o.getD i 0)) (s.drop (o.getD k 0)) ≤ t.length := fun i k n hi hk hik => by
      obtain ⟨_, j, h1, h2, h3⟩ := ho.range hik hk
      rw [h3]
      exact h.most j (by omega)
    intro i k n hi hk hik hin hkn e
    obtain ⟨a, ha, rfl⟩ := ho.find hi
    obtain ⟨b, hb, rfl⟩ := ho.find hk
    have hl := lcp_ge (n := n) (by rw [List.length_drop]; omega) (by rw [List.length_drop]; omega) e
    refine Nat.le_trans hl ?_
    rcases Nat.lt_trichotomy a b with hab | hab | hab
    · exact key a b n ha hb hab
    · exact absurd (by rw [hab]) hik
    · rw [lcp_comm]; exact key b a n hb ha hab
/-- The known word. -/
theorem twice_known {t : List UInt8} (h : IsTwice [98, 97, 110, 97, 110, 97] t) : t = [97, 110, 97] := by
  have h3 : 3 ≤ t.length := h.most 1 3 3 (by decide) (by decide) (by decide) (by decide) (by decide) (by decide)
  rcases h.twice with rfl | ⟨i, k, hi, hk, hik, p1, p2⟩
  · simp at h3
  have hi : i < 6 := hi
  have hk : k < 6 := hk
  have e1 := List.prefix_iff_eq_take.1 p1
  have e2 := List.prefix_iff_eq_take.1 p2
  have hl := lcp_ge (a := [98, 97, 110, 97, 110, 97].drop i) (b := [98, 97, 110, 97, 110, 97].drop k) p1.length_le p2.length_le (by rw [← e1, ← e2])
  have key : ∀ i, i < 6 → ∀ k, k < 6 → i ≠ k → lcp (([98, 97, 110, 97, 110, 97] : List UInt8).drop i) (([98, 97, 110, 97, 110, 97] : List UInt8).drop k) ≤ 3 ∧ (3 ≤ lcp (([98, 97, 110, 97, 110, 97] : List UInt8).drop i) (([98, 97, 110, 97, 110, 97] : List UInt8).drop k) → (([98, 97, 110, 97, 110, 97] : List UInt8).drop i).take 3 = [97, 110, 97]) := by decide
  obtain ⟨k1, k2⟩ := key i hi k hk hik
  have : t.length = 3 := Nat.le_antisymm (Nat.le_trans hl k1) h3
  rw [this] at e1
  rw [e1]
  exact k2 (Nat.le_trans h3 hl)
/-- It is found, and, unless it is empty, not at one place only. -/
theorem IsTwice.found {s t : List UInt8} (h : IsTwice s t) : ∃ a : Nat, a ≤ s.length ∧ Lib.index s t = (a : Int) ∧ (t ≠ [] → Lib.lastIndex s t ≠ (a : Int)) := by
  rcases h.twice with rfl | ⟨i, k, hi, hk, hik, p1, p2⟩
  · exact ⟨0, Nat.zero_le _, Lib.index_empty s, fun h => absurd rfl h⟩
  · have o1 := occ_prefix.2 p1
    have o2 := occ_prefix.2 p2
    rcases Lib.index_spec s t with ⟨_, hn⟩ | ⟨a, e, ha, hoa, hno⟩
    · rw [hn i (by omega)] at o1; cases o1
    · refine ⟨a, ha, e, fun hne e2 => ?_⟩
      have l1 := p1.length_le
      have l2 := p2.length_le
      rw [List.length_drop] at l1 l2
      unfold Lib.lastIndex at e2
      rw [if_pos (by omega)] at e2
      have hia : ∀ j, Lib.occAt s t j = true → a ≤ j := fun j hj => Nat.le_of_not_lt fun hlt => by rw [hno j hlt] at hj; cases hj
      have a1 := hia i o1
      have a2 := hia k o2
      rcases Lib.lastOcc_spec s t (s.length - t.length + 1) with ⟨_, hn⟩ | ⟨b, _, eb, _, hb⟩
      · rw [hn i (by omega)] at o1; cases o1
      · have hba : b = a := by omega
        subst hba
        rcases Nat.lt_or_ge b i with h1 | h1
        · rw [hb i h1 (by omega)] at o1; cases o1
        · rcases Nat.lt_or_ge b k with h2 | h2
          · rw [hb k h2 (by omega)] at o2; cases o2
          · omega
end Go.Proofs.Ytkclcjgkicikfaa
