/- Plain: how many unlike palindromes stand in a word (Droubay, Justin, Pirillo). -/
import Derived.Test.YtjdeckjkcpglcaaSubsP
namespace Go.Proofs.Ytjdeckjkcpglcaa
set_option linter.unusedVariables false

/-- A palindrome that stands in a word, not empty. -/
def Pal (s x : List UInt8) : Prop := Sub s x ∧ x.reverse = x
theorem pal_more {s : List UInt8} {b : UInt8} {x : List UInt8} (h : Pal s x) : Pal (s ++ [b]) x := by
  refine ⟨?_, h.2⟩
  have h1 := sub_infix.1 h.1
  exact sub_infix.2 ⟨h1.1, h1.2.trans ⟨[], [b], by simp⟩⟩
/-- What is new is an end. -/
theorem pal_new {s : List UInt8} {b : UInt8} {x : List UInt8} (h : Sub (s ++ [b]) x) (hn : ¬ Sub s x) : x <:+ s ++ [b] := by
  obtain ⟨h0, a, c, e⟩ := sub_infix.1 h
  rcases List.eq_nil_or_concat c with rfl | ⟨c, z, rfl⟩
  · exact ⟨a, by rw [List.append_nil] at e; exact e⟩
  · exfalso
    apply hn
    rw [List.concat_eq_append, ← List.append_assoc] at e
    have := (List.append_inj' e rfl).1
    exact sub_infix.2 ⟨h0, a, c, this⟩
theorem pal_one {s : List UInt8} {b : UInt8} {x y : List UInt8} (hx : Pal (s ++ [b]) x) (hy : Pal (s ++ [b]) y) (hxy : x.length < y.length) (hny : ¬ Sub s y) (hnx : ¬ Sub s x) : False := by
  have ex := pal_new hx.1 hnx
  have ey := pal_new hy.1 hny
  -- x is an end of y, so its front
  have h1 : x <:+ y := by
    rcases List.suffix_or_suffix_of_suffix ex ey with h | h
    · exact h
    · have := h.length_le; omega
  have h2 : x <+: y := by
    have := List.reverse_prefix.2 h1
    rwa [hx.2, hy.2] at this
  obtain ⟨t, ht⟩ := h2
  obtain ⟨a, ha⟩ := ey
  have ht0 : t ≠ [] := fun e => by rw [e, List.append_nil] at ht; rw [ht] at hxy; omega
  obtain ⟨t', z, rfl⟩ : ∃ t' z, t = t' ++ [z] := by
    rcases List.eq_nil_or_concat t with h | ⟨t', z, h⟩
    · exact absurd h ht0
    · exact ⟨t', z, by rw [h, List.concat_eq_append]⟩
  apply hnx
  rw [← ht, ← List.append_assoc, ← List.append_assoc] at ha
  have := (List.append_inj' ha rfl).1
  exact sub_infix.2 ⟨(sub_infix.1 hx.1).1, a, t', this⟩
theorem many_of {α : Type} (P : α → Prop) (L : List α) (h : ∀ x, P x → x ∈ L) : ∃ n, Many P n := by
  classical
  induction L generalizing P with
  | nil => exact ⟨0, [], List.nodup_nil, fun x => ⟨fun h => (by cases h), fun hx => h x hx⟩, rfl⟩
  | cons a L ih =>
    obtain ⟨n, l, h1, h2, h3⟩ := ih (fun x => P x ∧ x ≠ a) fun x hx => by
      rcases List.mem_cons.1 (h x hx.1) with e | e
      · exact absurd e hx.2
      · exact e
    by_cases ha : P a
    · refine ⟨n + 1, a :: l, List.nodup_cons.2 ⟨fun hm => ((h2 a).1 hm).2 rfl, h1⟩, fun x => ?_, by rw [List.length_cons, h3]⟩
      rw [List.mem_cons, h2]
      constructor
      · rintro (rfl | hx)
        · exact ha
        · exact hx.1
      · intro hx
        by_cases e : x = a
        · exact .inl e
        · exact .inr ⟨hx, e⟩
    · refine ⟨n, l, h1, fun x => ?_, h3⟩
      rw [h2]
      exact ⟨fun hx => hx.1, fun hx => ⟨hx, fun e => ha (e ▸ hx)⟩⟩
theorem pal_list {s x : List UInt8} (h : Pal s x) : x ∈ (List.range s.length).flatMap fun i => (List.range (s.length + 1)).map fun k => (s.drop i).take k := by
  obtain ⟨⟨h0, i, hi, hp⟩, _⟩ := h
  rw [List.mem_flatMap]
  refine ⟨i, List.mem_range.2 hi, List.mem_map.2 ⟨x.length, List.mem_range.2 ?_, (List.prefix_iff_eq_take.1 hp).symm⟩⟩
  have := hp.length_le
  rw [List.length_drop] at this; omega
theorem pal_many (s : List UInt8) : ∃ n, Many (Pal s) n := many_of _ _ fun _ h => pal_list h
/-- A byte more brings at most one. -/
theorem pal_snoc {s : List UInt8} {b : UInt8} {n m : Nat} (h : Many (Pal s) n) (k : Many (Pal (s ++ [b])) m) : n ≤ m ∧ m ≤ n + 1 := by
  classical
  refine ⟨h.le k fun x hx => pal_more hx, ?_⟩
  obtain ⟨l, h1, h2, rfl⟩ := h
  by_cases hz : ∃ z, Pal (s ++ [b]) z ∧ ¬ Sub s z
  · obtain ⟨z, hz1, hz2⟩ := hz
    have := k.le_list (z :: l) fun x hx => by
      by_cases hs : Sub s x
      · exact List.mem_cons_of_mem _ ((h2 x).2 ⟨hs, hx.2⟩)
      · have e : x = z := by
          rcases Nat.lt_trichotomy x.length z.length with hl | hl | hl
          · exact (pal_one hx hz1 hl hz2 hs).elim
          · have e1 := pal_new hx.1 hs
            have e2 := pal_new hz1.1 hz2
            rcases List.suffix_or_suffix_of_suffix e1 e2 with h | h
            · exact h.eq_of_length hl
            · exact (h.eq_of_length hl.symm).symm
          · exact (pal_one hz1 hx hl hs hz2).elim
        rw [e]; simp
    rwa [List.length_cons] at this
  · have := k.le_list l fun x hx => by
      by_cases hs : Sub s x
      · exact (h2 x).2 ⟨hs, hx.2⟩
      · exact absurd ⟨x, hx, hs⟩ hz
    omega
theorem pal_few : ∀ (k : Nat) (s : List UInt8) (n : Nat), s.length = k → Many (Pal s) n → n ≤ s.length
  | 0, s, n, hs, h => by
    have := h.le_list [] fun x hx => by
      obtain ⟨⟨_, i, hi, _⟩, _⟩ := hx
      omega
    simp at this
    omega
  | k + 1, s, n, hs, h => by
    obtain ⟨t, b, rfl⟩ : ∃ t b, s = t ++ [b] := by
      rcases List.eq_nil_or_concat s with e | ⟨t, b, e⟩
      · rw [e] at hs; simp at hs
      · exact ⟨t, b, by rw [e, List.concat_eq_append]⟩
    rw [List.length_append, List.length_singleton] at hs ⊢
    obtain ⟨m, hm⟩ := pal_many t
    have h1 := pal_few k t m (by omega) hm
    have h2 := (pal_snoc hm h).2
    omega
end Go.Proofs.Ytjdeckjkcpglcaa
