/- Plain: the least edit that makes one text of another. -/
import Derived.Test.YtgoofbbbnphncaaDoorPlaceP
namespace Go.Proofs.YtgoofbbbnphncaaDoor
set_option linter.unusedVariables false

/-- Common front and back, as long as they go. -/
structure OfAt (s t : List UInt8) (f g : Nat) : Prop where
  fits : f + g ≤ min s.length t.length
  front : ∀ j, j < f → s.getD j 0 = t.getD j 0
  stop : f < min s.length t.length → s.getD f 0 ≠ t.getD f 0
  back : ∀ j, j < g → s.getD (s.length - 1 - j) 0 = t.getD (t.length - 1 - j) 0
  halt : f + g < min s.length t.length → s.getD (s.length - 1 - g) 0 ≠ t.getD (t.length - 1 - g) 0
/-- The edit. -/
def ofE (s t : List UInt8) (f g : Nat) : Ed := ((f : Int), ((s.length - g - f : Nat) : Int), e8 ((t.drop f).take (t.length - g - f)))
theorem list_ext0 {a b : List UInt8} (hl : a.length = b.length) (h : ∀ j, j < a.length → a.getD j 0 = b.getD j 0) : a = b := by
  refine List.ext_getElem hl fun j h1 h2 => ?_
  have := h j h1
  rw [List.getD_eq_getElem?_getD, List.getElem?_eq_getElem h1, List.getD_eq_getElem?_getD, List.getElem?_eq_getElem h2] at this
  exact this
theorem OfAt.ends {s t : List UInt8} {f g : Nat} (h : OfAt s t f g) : s.take f = t.take f ∧ s.drop (s.length - g) = t.drop (t.length - g) := by
  have h1 := h.fits
  constructor
  · refine list_ext0 (by rw [List.length_take, List.length_take]; omega) fun j hj => ?_
    rw [List.length_take] at hj
    rw [getD_takeE _ _ _ (by omega), getD_takeE _ _ _ (by omega)]
    exact h.front j (by omega)
  · refine list_ext0 (by rw [List.length_drop, List.length_drop]; omega) fun j hj => ?_
    rw [List.length_drop] at hj
    rw [getD_dropE, getD_dropE]
    have := h.back (g - 1 - j) (by omega)
    rw [show s.length - 1 - (g - 1 - j) = s.length - g + j from by omega, show t.length - 1 - (g - 1 - j) = t.length - g + j from by omega] at this
    exact this
theorem of_app {s t : List UInt8} {f g : Nat} (h : OfAt s t f g) : app s 0 [ofE s t f g] = t := by
  have h1 := h.fits
  obtain ⟨e1, e2⟩ := h.ends
  unfold ofE
  rw [app, app]
  simp only [Int.toNat_natCast]
  rw [show ((f : Int) + ((s.length - g - f : Nat) : Int)).toNat = s.length - g from by omega, List.drop_zero, e8_list, e1, e2]
  rw [show t.drop (t.length - g) = (t.drop f).drop (t.length - g - f) from by rw [List.drop_drop]; congr 1; omega, List.append_assoc, List.take_append_drop, List.take_append_drop]
theorem of_same {s t : List UInt8} {f g : Nat} (h : OfAt s t f g) : (s.length - g - f = 0 ∧ t.length - g - f = 0) ↔ s = t := by
  have h1 := h.fits
  constructor
  · rintro ⟨a, b⟩
    obtain ⟨e1, e2⟩ := h.ends
    have e3 := List.take_append_drop f s
    have e4 := List.take_append_drop f t
    rw [show s.length - g = f from by omega, show t.length - g = f from by omega] at e2
    rw [← e3, ← e4, e1, e2]
  · rintro rfl
    have : f = s.length := by
      refine Classical.byContradiction fun hh => ?_
      exact h.stop (by omega) rfl
    omega
theorem of_least {s t : List UInt8} {f g : Nat} (h : OfAt s t f g) {x : Ed} (hx : OkE s.length true 0 [x]) (ht : app s 0 [x] = t) : ((s.length - g - f : Nat) : Int) ≤ x.2.1 ∧ t.length - g - f ≤ x.2.2.size := by
  have h1 := h.fits
  obtain ⟨at_, del, ins⟩ := x
  obtain ⟨o1, o2, o3, _, _, _, _⟩ := hx
  simp only at o1 o2 o3
  obtain ⟨a, rfl⟩ : ∃ i : Nat, at_ = i := ⟨at_.toNat, by omega⟩
  obtain ⟨d, rfl⟩ : ∃ i : Nat, del = i := ⟨del.toNat, by omega⟩
  rw [app, app] at ht
  simp only [Int.toNat_natCast] at ht
  rw [show ((a : Int) + (d : Int)).toNat = a + d from by omega, List.drop_zero] at ht
  have hi : ins.data.toList.length = ins.size := rfl
  have hta : (s.take a).length = a := by rw [List.length_take]; omega
  have hl : t.length = a + ins.size + (s.length - (a + d)) := by
    rw [← ht, List.length_append, List.length_append, hta, hi, List.length_drop]
  have hfront : ∀ j, j < a → s.getD j 0 = t.getD j 0 := fun j hj => by
    rw [← ht, List.append_assoc, getD_app_at, if_pos (by omega), getD_takeE _ _ _ hj]
  have hback : ∀ j, j < s.length - (a + d) → s.getD (s.length - 1 - j) 0 = t.getD (t.length - 1 - j) 0 := fun j hj => by
    rw [hl, ← ht, getD_app_at, if_neg (by rw [List.length_append, hta, hi]; omega), List.length_append, hta, hi, getD_dropE]
    congr 1; omega
  have hfa : a ≤ f := by
    refine Classical.byContradiction fun hh => ?_
    exact h.stop (by omega) (hfront f (by omega))
  have hg : s.length - (a + d) ≤ g ∨ f + g = min s.length t.length := by
    by_cases hg : s.length - (a + d) ≤ g
    · exact .inl hg
    · by_cases hm : f + g < min s.length t.length
      · exact absurd (hback g (by omega)) (h.halt hm)
      · exact .inr (by omega)
  constructor
  · show ((s.length - g - f : Nat) : Int) ≤ (d : Int); omega
  · show t.length - g - f ≤ ins.size; omega
theorem of_check {s t : List UInt8} {f g : Nat} (h : OfAt s t f g) (hs : s.length ≤ 200) (ht : t.length ≤ 200) (hne : s ≠ t) : checkE s.length [ofE s t f g] = if 40 < t.length - g - f then 2 else 0 := by
  have h1 := h.fits
  have h2 : ¬ (s.length - g - f = 0 ∧ t.length - g - f = 0) := fun hh => hne ((of_same h).1 hh)
  have hsz : (ofE s t f g).2.2.size = t.length - g - f := by
    show ((t.drop f).take (t.length - g - f)).length = _
    rw [List.length_take, List.length_drop]; omega
  have ha : (ofE s t f g).1 = (f : Int) := rfl
  have hd : (ofE s t f g).2.1 = ((s.length - g - f : Nat) : Int) := rfl
  unfold checkE
  rw [if_neg (by omega), if_neg (by simp), chk, ha, hd, hsz, if_neg (by omega)]
  by_cases h40 : 40 < t.length - g - f
  · rw [if_pos h40, if_pos h40]
  · rw [if_neg h40, if_neg h40, if_neg (by omega), if_neg (by simp), chk, if_neg (by omega)]

end Go.Proofs.YtgoofbbbnphncaaDoor
