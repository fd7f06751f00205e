/- Plain: what edit.Check answers and what edit.Apply makes. -/
import Derived.Test.YtigbnldmjafgmaaDoorPlain
namespace Go.Proofs.YtigbnldmjafgmaaDoor
set_option linter.unusedVariables false

abbrev Ed := Int × Int × ByteArray

/-- What Check answers at the edits behind the first so many. -/
def chk (n : Int) : Bool → Int → Int → List Ed → Int
  | _, _, size, [] => if 200 < size then 11 else 0
  | first, e, size, x :: l =>
    if x.1 < 0 ∨ x.2.1 < 0 ∨ n < x.1 ∨ n - x.1 < x.2.1 then 1
    else if 40 < x.2.2.size then 2
    else if x.2.1 = 0 ∧ x.2.2.size = 0 then 5
    else if first = false ∧ x.1 ≤ e then 6
    else chk n false (x.1 + x.2.1) (size + (x.2.2.size - x.2.1)) l
def checkE (n : Int) (l : List Ed) : Int := if n < 0 ∨ 200 < n then 1 else if 20 < l.length then 2 else chk n true 0 n l

/-- Edits in order, within n. -/
def OkE (n : Int) : Bool → Int → List Ed → Prop
  | _, _, [] => True
  | first, e, x :: l => 0 ≤ x.1 ∧ 0 ≤ x.2.1 ∧ x.1 + x.2.1 ≤ n ∧ x.2.2.size ≤ 40 ∧ ¬ (x.2.1 = 0 ∧ x.2.2.size = 0) ∧ (first = false → e < x.1) ∧ OkE n false (x.1 + x.2.1) l
/-- How much longer. -/
def gain : List Ed → Int
  | [] => 0
  | x :: l => x.2.2.size - x.2.1 + gain l

theorem chk_full (n : Int) : ∀ (l : List Ed) (f : Bool) (e sz : Int), OkE n f e l → chk n f e sz l = if 200 < sz + gain l then 11 else 0
  | [], f, e, sz, _ => by simp [chk, gain]
  | x :: l, f, e, sz, h => by
    obtain ⟨h1, h2, h3, h4, h5, h6, h7⟩ := h
    rw [chk, if_neg (by omega), if_neg (by omega), if_neg h5, if_neg (fun hh => by have := h6 hh.1; omega), chk_full n l false _ _ h7, gain]
    rw [show sz + ((x.2.2.size : Int) - x.2.1) + gain l = sz + ((x.2.2.size : Int) - x.2.1 + gain l) from by omega]
theorem chk_ok (n : Int) : ∀ (l : List Ed) (f : Bool) (e sz : Int), chk n f e sz l = 0 ∨ chk n f e sz l = 11 → OkE n f e l
  | [], f, e, sz, _ => trivial
  | x :: l, f, e, sz, h => by
    rw [chk] at h
    by_cases h1 : x.1 < 0 ∨ x.2.1 < 0 ∨ n < x.1 ∨ n - x.1 < x.2.1
    · rw [if_pos h1] at h; omega
    rw [if_neg h1] at h
    by_cases h2 : 40 < x.2.2.size
    · rw [if_pos h2] at h; omega
    rw [if_neg h2] at h
    by_cases h3 : x.2.1 = 0 ∧ x.2.2.size = 0
    · rw [if_pos h3] at h; omega
    rw [if_neg h3] at h
    by_cases h4 : f = false ∧ x.1 ≤ e
    · rw [if_pos h4] at h; omega
    rw [if_neg h4] at h
    exact ⟨by omega, by omega, by omega, by omega, h3, fun hf => by have : ¬ x.1 ≤ e := fun hh => h4 ⟨hf, hh⟩; omega, chk_ok n l false _ _ h⟩
theorem gain_append (l m : List Ed) : gain (l ++ m) = gain l + gain m := by
  induction l with
  | nil => simp [gain]
  | cons x l ih => rw [List.cons_append, gain, gain, ih]; omega

theorem checkE_ok {n : Int} {l : List Ed} (h : checkE n l = 0) : 0 ≤ n ∧ n ≤ 200 ∧ l.length ≤ 20 ∧ OkE n true 0 l ∧ n + gain l ≤ 200 := by
  unfold checkE at h
  by_cases h1 : n < 0 ∨ 200 < n
  · rw [if_pos h1] at h; omega
  rw [if_neg h1] at h
  by_cases h2 : 20 < l.length
  · rw [if_pos h2] at h; omega
  rw [if_neg h2] at h
  have hk := chk_ok n l true 0 n (.inl h)
  rw [chk_full n l true 0 n hk] at h
  exact ⟨by omega, by omega, by omega, hk, by split at h <;> omega⟩
theorem checkE_full {n : Int} {l : List Ed} (h0 : 0 ≤ n) (h1 : n ≤ 200) (h2 : l.length ≤ 20) (h : OkE n true 0 l) : checkE n l = if 200 < n + gain l then 11 else 0 := by
  unfold checkE
  rw [if_neg (by omega), if_neg (by omega), chk_full n l true 0 n h]

/-- What Apply makes from the place at on. -/
def app (s : List UInt8) : Nat → List Ed → List UInt8
  | a, [] => s.drop a
  | a, x :: l => (s.take x.1.toNat).drop a ++ x.2.2.data.toList ++ app s (x.1 + x.2.1).toNat l

/-- What is made ahead of the edits l's end. -/
def front (s : List UInt8) : Nat → List Ed → List UInt8
  | _, [] => []
  | a, x :: l => (s.take x.1.toNat).drop a ++ x.2.2.data.toList ++ front s (x.1 + x.2.1).toNat l
def endOf : Int → List Ed → Int
  | a, [] => a
  | _, x :: l => endOf (x.1 + x.2.1) l
theorem app_append (s : List UInt8) : ∀ (l m : List Ed) (e : Int), app s e.toNat (l ++ m) = front s e.toNat l ++ app s (endOf e l).toNat m
  | [], m, e => by simp [front, endOf]
  | x :: l, m, e => by rw [List.cons_append, app, front, endOf, app_append s l m]; simp only [List.append_assoc]
theorem app_front (s : List UInt8) (l : List Ed) (e : Int) : app s e.toNat l = front s e.toNat l ++ s.drop (endOf e l).toNat := by
  have := app_append s l [] e
  rw [List.append_nil] at this
  exact this
theorem OkE.append {n : Int} : ∀ {l m : List Ed} {f : Bool} {e : Int}, OkE n f e (l ++ m) → OkE n f e l ∧ OkE n (f && l.isEmpty) (endOf e l) m
  | [], m, f, e, h => ⟨trivial, by simpa [endOf] using h⟩
  | x :: l, m, f, e, h => by
    obtain ⟨h1, h2, h3, h4, h5, h6, h7⟩ := h
    have := OkE.append (l := l) h7
    refine ⟨⟨h1, h2, h3, h4, h5, h6, this.1⟩, ?_⟩
    rw [endOf]
    simpa using this.2
theorem OkE.endOf_le {n : Int} : ∀ {l : List Ed} {f : Bool} {e : Int}, OkE n f e l → 0 ≤ e → e ≤ n → 0 ≤ endOf e l ∧ endOf e l ≤ n
  | [], f, e, h, h0, h1 => ⟨h0, h1⟩
  | x :: l, f, e, h, _, _ => by
    obtain ⟨h1, h2, h3, h4, h5, h6, h7⟩ := h
    show 0 ≤ endOf (x.1 + x.2.1) l ∧ endOf (x.1 + x.2.1) l ≤ n
    exact OkE.endOf_le h7 (by omega) h3
theorem front_length {n : Nat} (s : List UInt8) (hs : s.length = n) : ∀ (l : List Ed) (f : Bool) (e : Nat), OkE n f e l → (f = true → e = 0) → ((front s e l).length : Int) = endOf e l - e + gain l
  | [], f, e, h, _ => by simp [front, endOf, gain]
  | x :: l, f, e, ⟨h1, h2, h3, h4, h5, h6, h7⟩, hf => by
    have h7 := h7
    obtain ⟨q, hq⟩ : ∃ q : Nat, x.1 + x.2.1 = q := ⟨(x.1 + x.2.1).toNat, by omega⟩
    have ht : (x.1 + x.2.1).toNat = q := by omega
    rw [hq] at h7
    have := front_length s hs l false q h7 (by simp)
    have hle : (e : Int) ≤ x.1 := by
      cases f with
      | true => have := hf rfl; omega
      | false => have := h6 rfl; omega
    have hb : x.2.2.data.toList.length = x.2.2.size := rfl
    rw [front, endOf, gain, ht, hq]
    simp only [List.length_append, List.length_drop, List.length_take, hb, hs]
    omega

theorem ok_all {n : Int} (hn : n ≤ 200) : ∀ {l : List Ed} {f : Bool} {e : Int}, OkE n f e l → ∀ x ∈ l, 0 ≤ x.1 ∧ 0 ≤ x.2.1 ∧ x.1 + x.2.1 ≤ n ∧ x.2.2.size ≤ 40
  | y :: l, f, e, ⟨h1, h2, h3, h4, h5, h6, h7⟩, x, hx => by
    rcases List.mem_cons.1 hx with rfl | hx
    · exact ⟨h1, h2, h3, h4⟩
    · exact ok_all hn h7 x hx
theorem ok_bounds {n : Int} (hn : n ≤ 200) : ∀ {l : List Ed} {f : Bool} {e : Int}, OkE n f e l → ∀ x ∈ l, (-9223372036854775808 ≤ x.1 ∧ x.1 ≤ 9223372036854775807) ∧ (-9223372036854775808 ≤ x.2.1 ∧ x.2.1 ≤ 9223372036854775807) ∧ (x.2.2).size ≤ 140737488351232
  | y :: l, f, e, ⟨h1, h2, h3, h4, h5, h6, h7⟩, x, hx => by
    rcases List.mem_cons.1 hx with rfl | hx
    · exact ⟨⟨by omega, by omega⟩, ⟨by omega, by omega⟩, by omega⟩
    · exact ok_bounds hn h7 x hx

/-- Moved by so much. -/
def shiftE (m : Int) (l : List Ed) : List Ed := l.map fun x => (x.1 + m, x.2.1, x.2.2)
theorem gain_shift (m : Int) (l : List Ed) : gain (shiftE m l) = gain l := by
  induction l with
  | nil => rfl
  | cons x l ih => show _ + gain (shiftE m l) = _; rw [ih]; rfl
theorem shift_length (m : Int) (l : List Ed) : (shiftE m l).length = l.length := by simp [shiftE]
/-- The rest of the edits, moved, does at the new text what it did at the old one. -/
theorem app_shift (s p : List UInt8) (a : Nat) (ha : a ≤ s.length) (m : Int) (hm : m = p.length - a) : ∀ (l : List Ed) (f : Bool) (e : Nat), a ≤ e → OkE s.length f e l → (f = true → e = a ∧ ∀ x ∈ l.head?, (a : Int) ≤ x.1) →
    OkE ((p ++ s.drop a).length) f (e + m) (shiftE m l) ∧ app (p ++ s.drop a) (e + m).toNat (shiftE m l) = app s e l
  | [], f, e, he, _, _ => by
    refine ⟨trivial, ?_⟩
    show (p ++ s.drop a).drop (e + m).toNat = s.drop e
    rw [List.drop_append, List.drop_eq_nil_of_le (by omega), List.nil_append, List.drop_drop]
    congr 1; omega
  | x :: l, f, e, he, ⟨h1, h2, h3, h4, h5, h6, h7⟩, hf => by
    obtain ⟨q, hq⟩ : ∃ q : Nat, x.1 + x.2.1 = q := ⟨(x.1 + x.2.1).toNat, by omega⟩
    have ht : (x.1 + x.2.1).toNat = q := by omega
    have hle : (e : Int) ≤ x.1 := by
      cases f with
      | true => have := (hf rfl).1; have := (hf rfl).2 x (by simp); omega
      | false => have := h6 rfl; omega
    rw [hq] at h7
    have ih := app_shift s p a ha m hm l false q (by omega) h7 (by simp)
    have hl : ((p ++ s.drop a).length : Int) = s.length + m := by rw [List.length_append, List.length_drop]; omega
    have e1 : x.1 + m + x.2.1 = (q : Int) + m := by omega
    refine ⟨⟨by show 0 ≤ x.1 + m; omega, h2, by show x.1 + m + x.2.1 ≤ _; omega, h4, h5, fun hh => by have := h6 hh; show _ < x.1 + m; omega, by show OkE _ false (x.1 + m + x.2.1) _; rw [e1]; exact ih.1⟩, ?_⟩
    show ((p ++ s.drop a).take (x.1 + m).toNat).drop (e + m).toNat ++ x.2.2.data.toList ++ app _ (x.1 + m + x.2.1).toNat (shiftE m l) = _
    rw [e1, ih.2, app, ht]
    congr 2
    obtain ⟨i, hi⟩ : ∃ i : Nat, x.1 = i := ⟨x.1.toNat, by omega⟩
    rw [hi] at hle h1 h3 ⊢
    rw [show ((i : Int) + m).toNat = p.length + (i - a) from by omega, show ((e : Int) + m).toNat = p.length + (e - a) from by omega, show ((i : Int)).toNat = i from by omega]
    rw [List.take_append, List.take_of_length_le (by omega), show p.length + (i - a) - p.length = i - a from by omega, List.drop_append, List.drop_eq_nil_of_le (by omega), List.nil_append,
      show p.length + (e - a) - p.length = e - a from by omega, List.take_drop, show a + (i - a) = i from by omega, List.drop_drop, show a + (e - a) = e from by omega]

theorem shift_bounds {n : Int} (hn : n ≤ 200) {l : List Ed} {f : Bool} {e : Int} (h : OkE n f e l) (k : Nat) (M : Int) (h1 : -200 ≤ M) (h2 : M ≤ 200) : ∀ x ∈ shiftE M (l.drop k), (-9223372036854775808 ≤ x.1 ∧ x.1 ≤ 9223372036854775807) ∧ (-9223372036854775808 ≤ x.2.1 ∧ x.2.1 ≤ 9223372036854775807) ∧ (x.2.2).size ≤ 140737488351232 := by
  intro x hx
  obtain ⟨y, hy, rfl⟩ := List.mem_map.1 hx
  have := ok_all hn h y (List.mem_of_mem_drop hy)
  exact ⟨⟨by show _ ≤ y.1 + M; omega, by show y.1 + M ≤ _; omega⟩, ⟨by show _ ≤ y.2.1; omega, by show y.2.1 ≤ _; omega⟩, by show y.2.2.size ≤ _; omega⟩

/-- EditParts, plain. -/
theorem edit_parts (s : List UInt8) (l : List Ed) (k : Nat) (h : checkE s.length l = 0) :
    (checkE s.length (l.take k) = 11) ∨ (checkE s.length (l.take k) = 0 ∧
      checkE (app s 0 (l.take k)).length (shiftE ((app s 0 (l.take k)).length - s.length) (l.drop k)) = 0 ∧
      app (app s 0 (l.take k)) 0 (shiftE ((app s 0 (l.take k)).length - s.length) (l.drop k)) = app s 0 l) := by
  obtain ⟨h0, h1, h2, h3, h4⟩ := checkE_ok h
  have hsplit : l = l.take k ++ l.drop k := (List.take_append_drop k l).symm
  have hkl : (l.take k).length ≤ 20 := by rw [List.length_take]; omega
  have hdl : (l.drop k).length ≤ 20 := by rw [List.length_drop]; omega
  have h3' := h3
  rw [hsplit] at h3'
  obtain ⟨ha, hb⟩ := h3'.append
  have hg : gain l = gain (l.take k) + gain (l.drop k) := by rw [← gain_append, ← hsplit]
  have hc := checkE_full h0 h1 hkl ha
  by_cases hf : 200 < (s.length : Int) + gain (l.take k)
  · exact .inl (by rw [hc, if_pos hf])
  refine .inr ⟨by rw [hc, if_neg hf], ?_⟩
  have hend := ha.endOf_le (Int.le_refl 0) h0
  obtain ⟨a, hae⟩ : ∃ a : Nat, endOf 0 (l.take k) = a := ⟨(endOf 0 (l.take k)).toNat, by omega⟩
  have hfl := front_length s rfl (l.take k) true 0 ha (fun _ => rfl)
  have hapf := app_front s (l.take k) 0
  simp only [Int.cast_ofNat_Int, Int.toNat_zero] at hfl hapf
  rw [hae] at hfl hapf
  rw [Int.toNat_natCast] at hapf
  rw [hae] at hb hend
  generalize hp : front s 0 (l.take k) = p at *
  have hul : ((app s 0 (l.take k)).length : Int) = s.length + gain (l.take k) := by
    rw [hapf, List.length_append, List.length_drop]; omega
  have hm : ((app s 0 (l.take k)).length : Int) - s.length = p.length - a := by omega
  have happ := app_append s (l.take k) (l.drop k) 0
  rw [← hsplit, Int.toNat_zero, hp, hae, Int.toNat_natCast] at happ
  have key : OkE ((app s 0 (l.take k)).length) true 0 (shiftE ((app s 0 (l.take k)).length - s.length) (l.drop k)) ∧
      app (app s 0 (l.take k)) 0 (shiftE ((app s 0 (l.take k)).length - s.length) (l.drop k)) = app s 0 l := by
    rw [hm, happ, hapf]
    have hst := app_shift s p a (by omega) (p.length - a) rfl (l.drop k) (true && (l.take k).isEmpty) a (Nat.le_refl _) hb (fun hh => ⟨rfl, fun x hx => by
      simp at hh
      have : a = 0 := by rcases hh with hh | hh <;> (have : l.take k = [] := by simp [hh]) <;> (rw [this] at hae; simp [endOf] at hae; omega)
      subst this
      cases hd : l.drop k with
      | nil => rw [hd] at hx; simp at hx
      | cons y r =>
        rw [hd] at hx hb
        simp at hx; subst hx
        exact hb.1⟩)
    rw [show (a : Int) + (p.length - a) = p.length from by omega, Int.toNat_natCast] at hst
    cases hd : l.drop k with
    | nil =>
      refine ⟨trivial, ?_⟩
      rw [hd] at hst
      show (p ++ s.drop a).drop 0 = p ++ app s a []
      rw [List.drop_zero]; rfl
    | cons y r =>
      rw [hd] at hst hb
      obtain ⟨g1, g2, g3, g4, g5, g6, g7⟩ := hst.1
      refine ⟨⟨g1, g2, g3, g4, g5, fun hh => by simp at hh, g7⟩, ?_⟩
      have hsa := hst.2
      rw [← hsa]
      show ((p ++ s.drop a).take (y.1 + (p.length - a)).toNat).drop 0 ++ y.2.2.data.toList ++ _ = p ++ (((p ++ s.drop a).take (y.1 + (p.length - a)).toNat).drop p.length ++ y.2.2.data.toList ++ _)
      have hya : (a : Int) ≤ y.1 := by
        cases he : (true && (l.take k).isEmpty) with
        | true =>
          simp at he
          have : a = 0 := by rcases he with he | he <;> (have : l.take k = [] := by simp [he]) <;> (rw [this] at hae; simp [endOf] at hae; omega)
          have := hb.1
          omega
        | false => have := hb.2.2.2.2.2.1 he; omega
      have hpp : p.length ≤ (y.1 + (p.length - a)).toNat := by omega
      rw [List.drop_zero, ← List.append_assoc, ← List.append_assoc]
      congr 2
      conv => lhs; rw [← List.take_append_drop p.length ((p ++ s.drop a).take (y.1 + (p.length - a)).toNat)]
      congr 1
      rw [List.take_take, Nat.min_eq_left hpp, List.take_append_of_le_length (Nat.le_refl _), List.take_length]
  refine ⟨?_, key.2⟩
  rw [checkE_full (by omega) (by omega) (by rw [shift_length]; exact hdl) key.1, if_neg (by rw [gain_shift]; omega)]

end Go.Proofs.YtigbnldmjafgmaaDoor
