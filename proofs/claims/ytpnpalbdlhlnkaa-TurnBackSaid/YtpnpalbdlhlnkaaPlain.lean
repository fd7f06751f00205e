/- Plain list lemmas that Lean's core lacks. -/
namespace Go.Proofs.Ytpnpalbdlhlnkaa

section
variable {α : Type}
theorem getD_app_left (l m : List α) (d : α) (j : Nat) (h : j < l.length) : (l ++ m).getD j d = l.getD j d := by
  rw [List.getD_eq_getElem?_getD, List.getD_eq_getElem?_getD, List.getElem?_append_left h]
theorem getD_app_right (l m : List α) (d : α) (j : Nat) (h : l.length ≤ j) : (l ++ m).getD j d = m.getD (j - l.length) d := by
  rw [List.getD_eq_getElem?_getD, List.getD_eq_getElem?_getD, List.getElem?_append_right h]
theorem getD_none (l : List α) (d : α) (j : Nat) (h : l.length ≤ j) : l.getD j d = d := by
  rw [List.getD_eq_getElem?_getD, List.getElem?_eq_none h]; rfl
theorem getD_some (l : List α) (d : α) (j : Nat) (h : j < l.length) : l.getD j d = l[j] := by
  rw [List.getD_eq_getElem?_getD, List.getElem?_eq_getElem h]; rfl
theorem getElem?_of_getD (l : List α) (d : α) (j : Nat) (h : j < l.length) : l[j]? = some (l.getD j d) := by
  rw [getD_some l d j h, List.getElem?_eq_getElem h]
theorem getD_set (l : List α) (k : Nat) (c d : α) (hk : k < l.length) (j : Nat) : (l.set k c).getD j d = if j = k then c else l.getD j d := by
  rw [List.getD_eq_getElem?_getD, List.getElem?_set]
  by_cases e : k = j
  · subst e; simp [hk]
  · rw [if_neg e, if_neg (Ne.symm e), List.getD_eq_getElem?_getD]
theorem take_succ_getD (l : List α) (k : Nat) (d : α) (h : k < l.length) : l.take (k + 1) = l.take k ++ [l.getD k d] := by
  rw [List.take_succ_eq_append_getElem h, getD_some l d k h]
theorem drop_getD (l : List α) (k : Nat) (d : α) (h : k < l.length) : l.drop k = l.getD k d :: l.drop (k + 1) := by
  rw [List.drop_eq_getElem_cons h, getD_some l d k h]
theorem getD_drop (l : List α) (k j : Nat) (d : α) : (l.drop k).getD j d = l.getD (k + j) d := by
  rw [List.getD_eq_getElem?_getD, List.getD_eq_getElem?_getD, List.getElem?_drop]
theorem getD_take (l : List α) (k j : Nat) (d : α) (h : j < k) : (l.take k).getD j d = l.getD j d := by
  rw [List.getD_eq_getElem?_getD, List.getD_eq_getElem?_getD, List.getElem?_take_of_lt h]
theorem ext_getD (l m : List α) (d : α) (h : l.length = m.length) (hj : ∀ j, j < l.length → l.getD j d = m.getD j d) : l = m := by
  apply List.ext_getElem h
  intro j h1 h2
  have := hj j h1
  rwa [getD_some _ _ _ h1, getD_some _ _ _ h2] at this
theorem getD_reverse (l : List α) (d : α) (j : Nat) (h : j < l.length) : l.reverse.getD j d = l.getD (l.length - 1 - j) d := by
  rw [getD_some _ _ _ (by simpa using h), getD_some _ _ _ (by omega), List.getElem_reverse]
end
end Go.Proofs.Ytpnpalbdlhlnkaa
