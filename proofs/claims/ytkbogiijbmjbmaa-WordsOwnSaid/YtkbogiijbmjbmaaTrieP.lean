/- Plain: what trie.Check and trie.Fronts tell. -/
import Derived.Test.YtkbogiijbmjbmaaContains
import Derived.Test.YtkbogiijbmjbmaaPrefix
import Derived.Test.YtkbogiijbmjbmaaTurnP
namespace Go.Proofs.Ytkbogiijbmjbmaa
set_option linter.unusedVariables false

def wordT (seen : List ByteArray) (x : ByteArray) : Int := if x.size = 0 then 5 else if 20 < x.size then 2 else if hasB x seen = true then 10 else 0
theorem wordT_zero {seen : List ByteArray} {x : ByteArray} (h : wordT seen x = 0) : 0 < x.size ∧ x.size ≤ 20 ∧ x ∉ seen := by
  unfold wordT at h
  by_cases h1 : x.size = 0
  · rw [if_pos h1] at h; cases h
  · rw [if_neg h1] at h
    by_cases h2 : 20 < x.size
    · rw [if_pos h2] at h; cases h
    · rw [if_neg h2] at h
      by_cases h3 : hasB x seen = true
      · rw [if_pos h3] at h; cases h
      · exact ⟨by omega, by omega, hasB_no.1 (by simpa using h3)⟩
def checkG : List ByteArray → List ByteArray → Int
  | _, [] => 0
  | seen, x :: r => if wordT seen x ≠ 0 then wordT seen x else checkG (seen ++ [x]) r
def checkP (l : List ByteArray) : Int := if 10 < l.length then 2 else checkG [] l
theorem checkG_bad : ∀ (l seen : List ByteArray) (x : ByteArray) (r : List ByteArray), checkG seen l = 0 → wordT (seen ++ l) x ≠ 0 → checkG seen (l ++ x :: r) = wordT (seen ++ l) x
  | [], seen, x, r, _, h => by rw [List.append_nil] at h ⊢; rw [List.nil_append, checkG, if_pos h]
  | y :: l, seen, x, r, h0, h => by
    rw [checkG] at h0
    by_cases hy : wordT seen y ≠ 0
    · rw [if_pos hy] at h0; exact absurd h0 hy
    · rw [if_neg hy] at h0
      have e : seen ++ y :: l = (seen ++ [y]) ++ l := by simp
      rw [e] at h ⊢
      rw [List.cons_append, checkG, if_neg hy]
      exact checkG_bad l _ x r h0 h
theorem checkG_good : ∀ (l seen : List ByteArray) (x : ByteArray), checkG seen l = 0 → wordT (seen ++ l) x = 0 → checkG seen (l ++ [x]) = 0
  | [], seen, x, _, h => by
    rw [List.append_nil] at h
    rw [List.nil_append, checkG, if_neg (fun hn => hn h)]; rfl
  | y :: l, seen, x, h0, h => by
    rw [checkG] at h0
    by_cases hy : wordT seen y ≠ 0
    · rw [if_pos hy] at h0; exact absurd h0 hy
    · rw [if_neg hy] at h0
      have e : seen ++ y :: l = (seen ++ [y]) ++ l := by simp
      rw [e] at h
      rw [List.cons_append, checkG, if_neg hy]
      exact checkG_good l _ x h0 h
theorem checkG_all : ∀ (l seen : List ByteArray), checkG seen l = 0 → (∀ x ∈ l, 0 < x.size ∧ x.size ≤ 20 ∧ x ∉ seen) ∧ l.Nodup
  | [], _, _ => ⟨by simp, List.nodup_nil⟩
  | y :: l, seen, h0 => by
    rw [checkG] at h0
    by_cases hy : wordT seen y ≠ 0
    · rw [if_pos hy] at h0; exact absurd h0 hy
    · rw [if_neg hy] at h0
      have hy : wordT seen y = 0 := by
        rcases Decidable.em (wordT seen y = 0) with h | h
        · exact h
        · exact absurd h hy
      obtain ⟨h1, h2⟩ := checkG_all l _ h0
      refine ⟨fun x hx => ?_, List.nodup_cons.2 ⟨fun h => (h1 y h).2.2 (by simp), h2⟩⟩
      rcases List.mem_cons.1 hx with rfl | hx
      · exact wordT_zero hy
      · exact ⟨(h1 x hx).1, (h1 x hx).2.1, fun h => (h1 x hx).2.2 (by simp [h])⟩
theorem checkP_zero {l : List ByteArray} (h : checkP l = 0) : l.length ≤ 10 ∧ (∀ x ∈ l, 0 < x.size ∧ x.size ≤ 20) ∧ l.Nodup := by
  unfold checkP at h
  by_cases h1 : 10 < l.length
  · rw [if_pos h1] at h; cases h
  · rw [if_neg h1] at h
    obtain ⟨h2, h3⟩ := checkG_all l [] h
    exact ⟨by omega, fun x hx => ⟨(h2 x hx).1, (h2 x hx).2.1⟩, h3⟩

/-- Those of the first k that begin so. -/
def frK (l : List ByteArray) (f : ByteArray) (k : Nat) : List Nat := (List.range k).filter fun j => preB (l.getD j ByteArray.empty) f
theorem frK_succ (l : List ByteArray) (f : ByteArray) (k : Nat) : frK l f (k + 1) = frK l f k ++ if preB (l.getD k ByteArray.empty) f = true then [k] else [] := by
  unfold frK
  rw [List.range_succ, List.filter_append]
  congr 1
  by_cases h : preB (l.getD k ByteArray.empty) f = true
  · rw [if_pos h]; simp only [List.filter_cons, List.filter_nil, h, if_true]
  · rw [if_neg h]; simp only [List.filter_cons, List.filter_nil, h]; simp
theorem frK_len (l : List ByteArray) (f : ByteArray) : ∀ k, (frK l f k).length ≤ k := fun k => by
  unfold frK
  have := List.length_filter_le (fun j => preB (l.getD j ByteArray.empty) f) (List.range k)
  rwa [List.length_range] at this
theorem frK_mem {l : List ByteArray} {f : ByteArray} {k j : Nat} : j ∈ frK l f k ↔ j < k ∧ preB (l.getD j ByteArray.empty) f = true := by
  unfold frK
  rw [List.mem_filter, List.mem_range]
/-- Two words in order. -/
def ltP (l : List ByteArray) (i k : Nat) : Prop := llt (l.getD i ByteArray.empty).data.toList (l.getD k ByteArray.empty).data.toList = true
instance (l : List ByteArray) (i k : Nat) : Decidable (ltP l i k) := by unfold ltP; infer_instance
def cmpP (l : List ByteArray) (i k : Nat) : Int := if ltP l i k then -1 else 1
theorem cmpP_lt (l : List ByteArray) (i k : Nat) : cmpP l i k < 0 ↔ ltP l i k := by
  unfold cmpP
  by_cases h : ltP l i k
  · rw [if_pos h]; exact ⟨fun _ => h, fun _ => by decide⟩
  · rw [if_neg h]; exact ⟨fun h2 => absurd h2 (by decide), fun h2 => absurd h2 h⟩
theorem ltP_irrefl (l : List ByteArray) (i : Nat) : ¬ ltP l i i := fun h => by unfold ltP at h; rw [llt_irrefl] at h; cases h
theorem ltP_trans {l : List ByteArray} {i j k : Nat} (h : ltP l i j) (h2 : ltP l j k) : ltP l i k := llt_trans h h2
theorem ltP_neg {l : List ByteArray} {i j k : Nat} (h1 : ¬ ltP l i j) (h2 : ¬ ltP l j k) : ¬ ltP l i k := fun h => by
  unfold ltP at *
  rcases llt_tri (l.getD i ByteArray.empty).data.toList (l.getD j ByteArray.empty).data.toList with k1 | k1 | k1
  · exact h1 k1
  · exact h2 (by rw [← k1]; exact h)
  · exact h2 (llt_trans k1 h)
theorem ltP_tri {l : List ByteArray} (hn : l.Nodup) {i k : Nat} (hi : i < l.length) (hk : k < l.length) : ltP l i k ∨ i = k ∨ ltP l k i := by
  rcases llt_tri (l.getD i ByteArray.empty).data.toList (l.getD k ByteArray.empty).data.toList with h | h | h
  · exact .inl h
  · right; left
    have e : l.getD i ByteArray.empty = l.getD k ByteArray.empty := by
      generalize l.getD i ByteArray.empty = a at *
      generalize l.getD k ByteArray.empty = b at *
      obtain ⟨⟨a⟩⟩ := a
      obtain ⟨⟨b⟩⟩ := b
      simp at h
      rw [h]
    rw [getD_some _ _ _ hi, getD_some _ _ _ hk] at e
    exact (List.getElem_inj hn).1 e
  · exact .inr (.inr h)
/-- What Fronts tells. -/
structure IsFr (l : List ByteArray) (f : ByteArray) (o : List Nat) : Prop where
  perm : o.Perm (frK l f l.length)
  sorted : o.Pairwise (ltP l)
theorem IsFr.unique {l : List ByteArray} {f : ByteArray} {o o' : List Nat} (h : IsFr l f o) (h' : IsFr l f o') : o = o' :=
  sorted_eq (R := ltP l) (fun a b h1 h2 => absurd (ltP_trans h1 h2) (ltP_irrefl l a)) (h.perm.trans h'.perm.symm) h.sorted h'.sorted
theorem IsFr.mem {l : List ByteArray} {f : ByteArray} {o : List Nat} (h : IsFr l f o) {j : Nat} : j ∈ o ↔ j < l.length ∧ preB (l.getD j ByteArray.empty) f = true := by rw [h.perm.mem_iff, frK_mem]
theorem IsFr.len {l : List ByteArray} {f : ByteArray} {o : List Nat} (h : IsFr l f o) : o.length ≤ l.length := by rw [h.perm.length_eq]; exact frK_len _ _ _
end Go.Proofs.Ytkbogiijbmjbmaa
