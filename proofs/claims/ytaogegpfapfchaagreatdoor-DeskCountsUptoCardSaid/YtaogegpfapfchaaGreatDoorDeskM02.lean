import Derived.Test.YtaogegpfapfchaaGreatDoorDeskM01
import Derived.Lib.ItoaNum
import Derived.WalkKit
/- Several texts in one: XEdit XScriptP XSum. -/
/- Plain: what edit.Check answers and what edit.Apply makes. -/
namespace Go.Proofs.YtaogegpfapfchaaGreatDoor
set_option linter.unusedVariables false

abbrev Ed := Int × Int × ByteArray

/-- What Check answers at the edits behind the first so many. -/
def chk (n : Int) : Bool → Int → Int → List Ed → Int
  | _, _, size, [] => if 200 < size then 11 else 0
  | first, e, size, x :: l =>
    if x.1 < 0 ∨ x.2.1 < 0 ∨ n < x.1 ∨ n - x.1 < x.2.1 then 1
    else if 40 < x.2.2.size then 2
    else if x.2.1 = 0 ∧ x.2.2.size = 0 then 5
    else if first = false ∧ x.1 ≤ e then 6
    else chk n false (x.1 + x.2.1) (size + (x.2.2.size - x.2.1)) l
def checkE (n : Int) (l : List Ed) : Int := if n < 0 ∨ 200 < n then 1 else if 20 < l.length then 2 else chk n true 0 n l

/-- Edits in order, within n. -/
def OkE (n : Int) : Bool → Int → List Ed → Prop
  | _, _, [] => True
  | first, e, x :: l => 0 ≤ x.1 ∧ 0 ≤ x.2.1 ∧ x.1 + x.2.1 ≤ n ∧ x.2.2.size ≤ 40 ∧ ¬ (x.2.1 = 0 ∧ x.2.2.size = 0) ∧ (first = false → e < x.1) ∧ OkE n false (x.1 + x.2.1) l
/-- How much longer. -/
def gain : List Ed → Int
  | [] => 0
  | x :: l => x.2.2.size - x.2.1 + gain l

theorem chk_full (n : Int) : ∀ (l : List Ed) (f : Bool) (e sz : Int), OkE n f e l → chk n f e sz l = if 200 < sz + gain l then 11 else 0
  | [], f, e, sz, _ => by simp [chk, gain]
  | x :: l, f, e, sz, h => by
    obtain ⟨h1, h2, h3, h4, h5, h6, h7⟩ := h
    rw [chk, if_neg (by omega), if_neg (by omega), if_neg h5, if_neg (fun hh => by have := h6 hh.1; omega), chk_full n l false _ _ h7, gain]
    rw [show sz + ((x.2.2.size : Int) - x.2.1) + gain l = sz + ((x.2.2.size : Int) - x.2.1 + gain l) from by omega]
theorem chk_ok (n : Int) : ∀ (l : List Ed) (f : Bool) (e sz : Int), chk n f e sz l = 0 ∨ chk n f e sz l = 11 → OkE n f e l
  | [], f, e, sz, _ => trivial
  | x :: l, f, e, sz, h => by
    rw [chk] at h
    by_cases h1 : x.1 < 0 ∨ x.2.1 < 0 ∨ n < x.1 ∨ n - x.1 < x.2.1
    · rw [if_pos h1] at h; omega
    rw [if_neg h1] at h
    by_cases h2 : 40 < x.2.2.size
    · rw [if_pos h2] at h; omega
    rw [if_neg h2] at h
    by_cases h3 : x.2.1 = 0 ∧ x.2.2.size = 0
    · rw [if_pos h3] at h; omega
    rw [if_neg h3] at h
    by_cases h4 : f = false ∧ x.1 ≤ e
    · rw [if_pos h4] at h; omega
    rw [if_neg h4] at h
    exact ⟨by omega, by omega, by omega, by omega, h3, fun hf => by have : ¬ x.1 ≤ e := fun hh => h4 ⟨hf, hh⟩; omega, chk_ok n l false _ _ h⟩
theorem gain_append (l m : List Ed) : gain (l ++ m) = gain l + gain m := by
  induction l with
  | nil => simp [gain]
  | cons x l ih => rw [List.cons_append, gain, gain, ih]; omega

theorem checkE_ok {n : Int} {l : List Ed} (h : checkE n l = 0) : 0 ≤ n ∧ n ≤ 200 ∧ l.length ≤ 20 ∧ OkE n true 0 l ∧ n + gain l ≤ 200 := by
  unfold checkE at h
  by_cases h1 : n < 0 ∨ 200 < n
  · rw [if_pos h1] at h; omega
  rw [if_neg h1] at h
  by_cases h2 : 20 < l.length
  · rw [if_pos h2] at h; omega
  rw [if_neg h2] at h
  have hk := chk_ok n l true 0 n (.inl h)
  rw [chk_full n l true 0 n hk] at h
  exact ⟨by omega, by omega, by omega, hk, by split at h <;> omega⟩
theorem checkE_full {n : Int} {l : List Ed} (h0 : 0 ≤ n) (h1 : n ≤ 200) (h2 : l.length ≤ 20) (h : OkE n true 0 l) : checkE n l = if 200 < n + gain l then 11 else 0 := by
  unfold checkE
  rw [if_neg (by omega), if_neg (by omega), chk_full n l true 0 n h]

/-- What Apply makes from the place at on. -/
def app (s : List UInt8) : Nat → List Ed → List UInt8
  | a, [] => s.drop a
  | a, x :: l => (s.take x.1.toNat).drop a ++ x.2.2.data.toList ++ app s (x.1 + x.2.1).toNat l

/-- What is made ahead of the edits l's end. -/
def front (s : List UInt8) : Nat → List Ed → List UInt8
  | _, [] => []
  | a, x :: l => (s.take x.1.toNat).drop a ++ x.2.2.data.toList ++ front s (x.1 + x.2.1).toNat l
def endOf : Int → List Ed → Int
  | a, [] => a
  | _, x :: l => endOf (x.1 + x.2.1) l
theorem app_append (s : List UInt8) : ∀ (l m : List Ed) (e : Int), app s e.toNat (l ++ m) = front s e.toNat l ++ app s (endOf e l).toNat m
  | [], m, e => by simp [front, endOf]
  | x :: l, m, e => by rw [List.cons_append, app, front, endOf, app_append s l m]; simp only [List.append_assoc]
theorem app_front (s : List UInt8) (l : List Ed) (e : Int) : app s e.toNat l = front s e.toNat l ++ s.drop (endOf e l).toNat := by
  have := app_append s l [] e
  rw [List.append_nil] at this
  exact this
theorem OkE.append {n : Int} : ∀ {l m : List Ed} {f : Bool} {e : Int}, OkE n f e (l ++ m) → OkE n f e l ∧ OkE n (f && l.isEmpty) (endOf e l) m
  | [], m, f, e, h => ⟨trivial, by simpa [endOf] using h⟩
  | x :: l, m, f, e, h => by
    obtain ⟨h1, h2, h3, h4, h5, h6, h7⟩ := h
    have := OkE.append (l := l) h7
    refine ⟨⟨h1, h2, h3, h4, h5, h6, this.1⟩, ?_⟩
    rw [endOf]
    simpa using this.2
theorem OkE.endOf_le {n : Int} : ∀ {l : List Ed} {f : Bool} {e : Int}, OkE n f e l → 0 ≤ e → e ≤ n → 0 ≤ endOf e l ∧ endOf e l ≤ n
  | [], f, e, h, h0, h1 => ⟨h0, h1⟩
  | x :: l, f, e, h, _, _ => by
    obtain ⟨h1, h2, h3, h4, h5, h6, h7⟩ := h
    show 0 ≤ endOf (x.1 + x.2.1) l ∧ endOf (x.1 + x.2.1) l ≤ n
    exact OkE.endOf_le h7 (by omega) h3
theorem front_length {n : Nat} (s : List UInt8) (hs : s.length = n) : ∀ (l : List Ed) (f : Bool) (e : Nat), OkE n f e l → (f = true → e = 0) → ((front s e l).length : Int) = endOf e l - e + gain l
  | [], f, e, h, _ => by simp [front, endOf, gain]
  | x :: l, f, e, ⟨h1, h2, h3, h4, h5, h6, h7⟩, hf => by
    have h7 := h7
    obtain ⟨q, hq⟩ : ∃ q : Nat, x.1 + x.2.1 = q := ⟨(x.1 + x.2.1).toNat, by omega⟩
    have ht : (x.1 + x.2.1).toNat = q := by omega
    rw [hq] at h7
    have := front_length s hs l false q h7 (by simp)
    have hle : (e : Int) ≤ x.1 := by
      cases f with
      | true => have := hf rfl; omega
      | false => have := h6 rfl; omega
    have hb : x.2.2.data.toList.length = x.2.2.size := rfl
    rw [front, endOf, gain, ht, hq]
    simp only [List.length_append, List.length_drop, List.length_take, hb, hs]
    omega

theorem ok_all {n : Int} (hn : n ≤ 200) : ∀ {l : List Ed} {f : Bool} {e : Int}, OkE n f e l → ∀ x ∈ l, 0 ≤ x.1 ∧ 0 ≤ x.2.1 ∧ x.1 + x.2.1 ≤ n ∧ x.2.2.size ≤ 40
  | y :: l, f, e, ⟨h1, h2, h3, h4, h5, h6, h7⟩, x, hx => by
    rcases List.mem_cons.1 hx with rfl | hx
    · exact ⟨h1, h2, h3, h4⟩
    · exact ok_all hn h7 x hx
theorem ok_bounds {n : Int} (hn : n ≤ 200) : ∀ {l : List Ed} {f : Bool} {e : Int}, OkE n f e l → ∀ x ∈ l, (-9223372036854775808 ≤ x.1 ∧ x.1 ≤ 9223372036854775807) ∧ (-9223372036854775808 ≤ x.2.1 ∧ x.2.1 ≤ 9223372036854775807) ∧ (x.2.2).size ≤ 140737488351232
  | y :: l, f, e, ⟨h1, h2, h3, h4, h5, h6, h7⟩, x, hx => by
    rcases List.mem_cons.1 hx with rfl | hx
    · exact ⟨⟨by omega, by omega⟩, ⟨by omega, by omega⟩, by omega⟩
    · exact ok_bounds hn h7 x hx

/-- Moved by so much. -/
def shiftE (m : Int) (l : List Ed) : List Ed := l.map fun x => (x.1 + m, x.2.1, x.2.2)
theorem gain_shift (m : Int) (l : List Ed) : gain (shiftE m l) = gain l := by
  induction l with
  | nil => rfl
  | cons x l ih => show _ + gain (shiftE m l) = _; rw [ih]; rfl
theorem shift_length (m : Int) (l : List Ed) : (shiftE m l).length = l.length := by simp [shiftE]
/-- The rest of the edits, moved, does at the new text what it did at the old one. -/
theorem app_shift (s p : List UInt8) (a : Nat) (ha : a ≤ s.length) (m : Int) (hm : m = p.length - a) : ∀ (l : List Ed) (f : Bool) (e : Nat), a ≤ e → OkE s.length f e l → (f = true → e = a ∧ ∀ x ∈ l.head?, (a : Int) ≤ x.1) →
    OkE ((p ++ s.drop a).length) f (e + m) (shiftE m l) ∧ app (p ++ s.drop a) (e + m).toNat (shiftE m l) = app s e l
  | [], f, e, he, _, _ => by
    refine ⟨trivial, ?_⟩
    show (p ++ s.drop a).drop (e + m).toNat = s.drop e
    rw [List.drop_append, List.drop_eq_nil_of_le (by omega), List.nil_append, List.drop_drop]
    congr 1; omega
  | x :: l, f, e, he, ⟨h1, h2, h3, h4, h5, h6, h7⟩, hf => by
    obtain ⟨q, hq⟩ : ∃ q : Nat, x.1 + x.2.1 = q := ⟨(x.1 + x.2.1).toNat, by omega⟩
    have ht : (x.1 + x.2.1).toNat = q := by omega
    have hle : (e : Int) ≤ x.1 := by
      cases f with
      | true => have := (hf rfl).1; have := (hf rfl).2 x (by simp); omega
      | false => have := h6 rfl; omega
    rw [hq] at h7
    have ih := app_shift s p a ha m hm l false q (by omega) h7 (by simp)
    have hl : ((p ++ s.drop a).length : Int) = s.length + m := by rw [List.length_append, List.length_drop]; omega
    have e1 : x.1 + m + x.2.1 = (q : Int) + m := by omega
    refine ⟨⟨by show 0 ≤ x.1 + m; omega, h2, by show x.1 + m + x.2.1 ≤ _; omega, h4, h5, fun hh => by have := h6 hh; show _ < x.1 + m; omega, by show OkE _ false (x.1 + m + x.2.1) _; rw [e1]; exact ih.1⟩, ?_⟩
    show ((p ++ s.drop a).take (x.1 + m).toNat).drop (e + m).toNat ++ x.2.2.data.toList ++ app _ (x.1 + m + x.2.1).toNat (shiftE m l) = _
    rw [e1, ih.2, app, ht]
    congr 2
    obtain ⟨i, hi⟩ : ∃ i : Nat, x.1 = i := ⟨x.1.toNat, by omega⟩
    rw [hi] at hle h1 h3 ⊢
    rw [show ((i : Int) + m).toNat = p.length + (i - a) from by omega, show ((e : Int) + m).toNat = p.length + (e - a) from by omega, show ((i : Int)).toNat = i from by omega]
    rw [List.take_append, List.take_of_length_le (by omega), show p.length + (i - a) - p.length = i - a from by omega, List.drop_append, List.drop_eq_nil_of_le (by omega), List.nil_append,
      show p.length + (e - a) - p.length = e - a from by omega, List.take_drop, show a + (i - a) = i from by omega, List.drop_drop, show a + (e - a) = e from by omega]

theorem shift_bounds {n : Int} (hn : n ≤ 200) {l : List Ed} {f : Bool} {e : Int} (h : OkE n f e l) (k : Nat) (M : Int) (h1 : -200 ≤ M) (h2 : M ≤ 200) : ∀ x ∈ shiftE M (l.drop k), (-9223372036854775808 ≤ x.1 ∧ x.1 ≤ 9223372036854775807) ∧ (-9223372036854775808 ≤ x.2.1 ∧ x.2.1 ≤ 9223372036854775807) ∧ (x.2.2).size ≤ 140737488351232 := by
  intro x hx
  obtain ⟨y, hy, rfl⟩ := List.mem_map.1 hx
  have := ok_all hn h y (List.mem_of_mem_drop hy)
  exact ⟨⟨by show _ ≤ y.1 + M; omega, by show y.1 + M ≤ _; omega⟩, ⟨by show _ ≤ y.2.1; omega, by show y.2.1 ≤ _; omega⟩, by show y.2.2.size ≤ _; omega⟩

/-- EditParts, plain. -/
theorem edit_parts (s : List UInt8) (l : List Ed) (k : Nat) (h : checkE s.length l = 0) :
    (checkE s.length (l.take k) = 11) ∨ (checkE s.length (l.take k) = 0 ∧
      checkE (app s 0 (l.take k)).length (shiftE ((app s 0 (l.take k)).length - s.length) (l.drop k)) = 0 ∧
      app (app s 0 (l.take k)) 0 (shiftE ((app s 0 (l.take k)).length - s.length) (l.drop k)) = app s 0 l) := by
  obtain ⟨h0, h1, h2, h3, h4⟩ := checkE_ok h
  have hsplit : l = l.take k ++ l.drop k := (List.take_append_drop k l).symm
  have hkl : (l.take k).length ≤ 20 := by rw [List.length_take]; omega
  have hdl : (l.drop k).length ≤ 20 := by rw [List.length_drop]; omega
  have h3' := h3
  rw [hsplit] at h3'
  obtain ⟨ha, hb⟩ := h3'.append
  have hg : gain l = gain (l.take k) + gain (l.drop k) := by rw [← gain_append, ← hsplit]
  have hc := checkE_full h0 h1 hkl ha
  by_cases hf : 200 < (s.length : Int) + gain (l.take k)
  · exact .inl (by rw [hc, if_pos hf])
  refine .inr ⟨by rw [hc, if_neg hf], ?_⟩
  have hend := ha.endOf_le (Int.le_refl 0) h0
  obtain ⟨a, hae⟩ : ∃ a : Nat, endOf 0 (l.take k) = a := ⟨(endOf 0 (l.take k)).toNat, by omega⟩
  have hfl := front_length s rfl (l.take k) true 0 ha (fun _ => rfl)
  have hapf := app_front s (l.take k) 0
  simp only [Int.cast_ofNat_Int, Int.toNat_zero] at hfl hapf
  rw [hae] at hfl hapf
  rw [Int.toNat_natCast] at hapf
  rw [hae] at hb hend
  generalize hp : front s 0 (l.take k) = p at *
  have hul : ((app s 0 (l.take k)).length : Int) = s.length + gain (l.take k) := by
    rw [hapf, List.length_append, List.length_drop]; omega
  have hm : ((app s 0 (l.take k)).length : Int) - s.length = p.length - a := by omega
  have happ := app_append s (l.take k) (l.drop k) 0
  rw [← hsplit, Int.toNat_zero, hp, hae, Int.toNat_natCast] at happ
  have key : OkE ((app s 0 (l.take k)).length) true 0 (shiftE ((app s 0 (l.take k)).length - s.length) (l.drop k)) ∧
      app (app s 0 (l.take k)) 0 (shiftE ((app s 0 (l.take k)).length - s.length) (l.drop k)) = app s 0 l := by
    rw [hm, happ, hapf]
    have hst := app_shift s p a (by omega) (p.length - a) rfl (l.drop k) (true && (l.take k).isEmpty) a (Nat.le_refl _) hb (fun hh => ⟨rfl, fun x hx => by
      simp at hh
      have : a = 0 := by rcases hh with hh | hh <;> (have : l.take k = [] := by simp [hh]) <;> (rw [this] at hae; simp [endOf] at hae; omega)
      subst this
      cases hd : l.drop k with
      | nil => rw [hd] at hx; simp at hx
      | cons y r =>
        rw [hd] at hx hb
        simp at hx; subst hx
        exact hb.1⟩)
    rw [show (a : Int) + (p.length - a) = p.length from by omega, Int.toNat_natCast] at hst
    cases hd : l.drop k with
    | nil =>
      refine ⟨trivial, ?_⟩
      rw [hd] at hst
      show (p ++ s.drop a).drop 0 = p ++ app s a []
      rw [List.drop_zero]; rfl
    | cons y r =>
      rw [hd] at hst hb
      obtain ⟨g1, g2, g3, g4, g5, g6, g7⟩ := hst.1
      refine ⟨⟨g1, g2, g3, g4, g5, fun hh => by simp at hh, g7⟩, ?_⟩
      have hsa := hst.2
      rw [← hsa]
      show ((p ++ s.drop a).take (y.1 + (p.length - a)).toNat).drop 0 ++ y.2.2.data.toList ++ _ = p ++ (((p ++ s.drop a).take (y.1 + (p.length - a)).toNat).drop p.length ++ y.2.2.data.toList ++ _)
      have hya : (a : Int) ≤ y.1 := by
        cases he : (true && (l.take k).isEmpty) with
        | true =>
          simp at he
          have : a = 0 := by rcases he with he | he <;> (have : l.take k = [] := by simp [he]) <;> (rw [this] at hae; simp [endOf] at hae; omega)
          have := hb.1
          omega
        | false => have := hb.2.2.2.2.2.1 he; omega
      have hpp : p.length ≤ (y.1 + (p.length - a)).toNat := by omega
      rw [List.drop_zero, ← List.append_assoc, ← List.append_assoc]
      congr 2
      conv => lhs; rw [← List.take_append_drop p.length ((p ++ s.drop a).take (y.1 + (p.length - a)).toNat)]
      congr 1
      rw [List.take_take, Nat.min_eq_left hpp, List.take_append_of_le_length (Nat.le_refl _), List.take_length]
  refine ⟨?_, key.2⟩
  rw [checkE_full (by omega) (by omega) (by rw [shift_length]; exact hdl) key.1, if_neg (by rw [gain_shift]; omega)]

end Go.Proofs.YtaogegpfapfchaaGreatDoor

/- Plain: edits as a text, written and read. -/
namespace Go.Proofs.YtaogegpfapfchaaGreatDoor
set_option linter.unusedVariables false

def IsDig (c : UInt8) : Prop := 48 ≤ c.toNat ∧ c.toNat ≤ 57
def valD (l : List UInt8) : Nat := l.foldl (fun a c => 10 * a + (c.toNat - 48)) 0
theorem valD_snoc (l : List UInt8) (c : UInt8) : valD (l ++ [c]) = 10 * valD l + (c.toNat - 48) := by simp [valD]
theorem valD_le : ∀ (b a : List UInt8), valD a ≤ valD (a ++ b)
  | [], a => by simp
  | c :: b, a => by
    have h1 := valD_le b (a ++ [c])
    rw [valD_snoc, List.append_assoc] at h1
    have : a ++ ([c] ++ b) = a ++ c :: b := rfl
    rw [this] at h1; omega
/-- Digits, and no 0 ahead of others. -/
structure Canon (l : List UInt8) : Prop where
  ne : l ≠ []
  dig : ∀ c ∈ l, IsDig c
  lead : l.getD 0 0 ≠ 48 ∨ l.length = 1
theorem dec_small {n : Nat} (h : n < 10) : Lib.decDigits n = [UInt8.ofNat (48 + n)] := by rw [Lib.decDigits, dif_pos h]
theorem dec_big {n : Nat} (h : ¬ n < 10) : Lib.decDigits n = Lib.decDigits (n / 10) ++ [UInt8.ofNat (48 + n % 10)] := by rw [Lib.decDigits, dif_neg h]
theorem u8_48 (d : Nat) (h : d < 10) : (UInt8.ofNat (48 + d)).toNat = 48 + d := by rw [UInt8.toNat_ofNat']; omega
theorem dec_ok : ∀ (n : Nat), Canon (Lib.decDigits n) ∧ valD (Lib.decDigits n) = n ∧ (1 ≤ n → (Lib.decDigits n).getD 0 0 ≠ 48)
  | n => by
    by_cases h : n < 10
    · rw [dec_small h]
      have := u8_48 n h
      refine ⟨⟨by simp, fun c hc => by rw [List.mem_singleton.1 hc]; unfold IsDig; omega, .inr rfl⟩, by show 10 * 0 + ((UInt8.ofNat (48 + n)).toNat - 48) = n; rw [this]; omega, fun h1 e => ?_⟩
      have e : UInt8.ofNat (48 + n) = 48 := e
      have := congrArg UInt8.toNat e
      rw [u8_48 n h, show (48 : UInt8).toNat = 48 from rfl] at this
      omega
    · obtain ⟨h1, h2, h3⟩ := dec_ok (n / 10)
      rw [dec_big h]
      have h4 := h3 (by omega)
      have hd := u8_48 (n % 10) (by omega)
      have hl : 0 < (Lib.decDigits (n / 10)).length := List.length_pos_iff.2 h1.ne
      have hg : (Lib.decDigits (n / 10) ++ [UInt8.ofNat (48 + n % 10)]).getD 0 0 ≠ 48 := by rw [getD_app_left _ _ _ _ hl]; exact h4
      refine ⟨⟨by simp, fun c hc => ?_, .inl hg⟩, by rw [valD_snoc, h2, hd]; omega, fun _ => hg⟩
      rcases List.mem_append.1 hc with hc | hc
      · exact h1.dig c hc
      · rw [List.mem_singleton.1 hc]; unfold IsDig; omega
termination_by n => n
decreasing_by omega
theorem canon_pos {l : List UInt8} (hl : l ≠ []) (hd : ∀ c ∈ l, IsDig c) (h0 : l.getD 0 0 ≠ 48) : 1 ≤ valD l := by
  match l, hl with
  | c :: l, _ =>
    have h1 := hd c (by simp)
    have h2 : c.toNat ≠ 48 := fun e => h0 (by show c = 48; exact UInt8.toNat_inj.1 e)
    have h3 := valD_le l [c]
    have h4 : valD [c] = c.toNat - 48 := by simp [valD]
    unfold IsDig at h1
    have : valD ([c] ++ l) = valD (c :: l) := rfl
    omega
theorem canon_dec : ∀ (n : Nat) (l : List UInt8), l.length = n → Canon l → Lib.decDigits (valD l) = l
  | 0, l, hn, h => absurd (List.eq_nil_of_length_eq_zero hn) h.ne
  | n + 1, l, hn, h => by
    obtain ⟨a, x, rfl⟩ : ∃ a x, l = a ++ [x] := ⟨l.dropLast, l.getLast h.ne, (List.dropLast_concat_getLast _).symm⟩
    have hx := h.dig x (by simp)
    unfold IsDig at hx
    have ex : UInt8.ofNat (48 + (x.toNat - 48)) = x := by rw [show 48 + (x.toNat - 48) = x.toNat from by omega]; simp
    by_cases ha : a = []
    · subst ha
      rw [List.nil_append, show valD [x] = x.toNat - 48 from by simp [valD], dec_small (by omega), ex]
    · have hal : 0 < a.length := List.length_pos_iff.2 ha
      have h0 : a.getD 0 0 ≠ 48 := by
        rcases h.lead with h1 | h1
        · rwa [getD_app_left _ _ _ _ hal] at h1
        · rw [List.length_append, List.length_singleton] at h1; omega
      have hc : Canon a := ⟨ha, fun c hc => h.dig c (by simp [hc]), .inl h0⟩
      have hp := canon_pos ha hc.dig h0
      rw [valD_snoc, dec_big (by omega), show (10 * valD a + (x.toNat - 48)) / 10 = valD a from by omega, show (10 * valD a + (x.toNat - 48)) % 10 = x.toNat - 48 from by omega, ex,
        canon_dec n a (by simpa using hn) hc]

/-- A number ahead of a byte. -/
def NumOk (s : List UInt8) (e : UInt8) (most n : Nat) (r : List UInt8) : Prop := s = Lib.decDigits n ++ e :: r ∧ n ≤ most
theorem split_uniq {e : UInt8} : ∀ {a b r t : List UInt8}, e ∉ a → e ∉ b → a ++ e :: r = b ++ e :: t → a = b ∧ r = t
  | [], [], r, t, _, _, h => ⟨rfl, by simpa using h⟩
  | [], y :: b, r, t, _, hb, h => by
    simp only [List.nil_append, List.cons_append, List.cons.injEq] at h
    exact absurd (by rw [h.1]; simp) hb
  | x :: a, [], r, t, ha, _, h => by
    simp only [List.nil_append, List.cons_append, List.cons.injEq] at h
    exact absurd (by rw [h.1]; simp) ha
  | x :: a, y :: b, r, t, ha, hb, h => by
    simp only [List.cons_append, List.cons.injEq] at h
    obtain ⟨h1, h2⟩ := split_uniq (fun g => ha (by simp [g])) (fun g => hb (by simp [g])) h.2
    exact ⟨by rw [h.1, h1], h2⟩
theorem dec_no {e : UInt8} (he : ¬ IsDig e) (n : Nat) : e ∉ Lib.decDigits n := fun h => he ((dec_ok n).1.dig e h)
theorem NumOk.uniq {s : List UInt8} {e : UInt8} {most n m : Nat} {r t : List UInt8} (he : ¬ IsDig e) (h : NumOk s e most n r) (k : NumOk s e most m t) : n = m ∧ r = t := by
  obtain ⟨h1, h2⟩ := split_uniq (dec_no he n) (dec_no he m) (h.1.symm.trans k.1)
  exact ⟨by rw [← (dec_ok n).2.1, h1, (dec_ok m).2.1], h2⟩
/-- So far all are digits. -/
structure NumS (s : List UInt8) (most k n : Nat) : Prop where
  le : k ≤ s.length
  dig : ∀ j, j < k → IsDig (s.getD j 0)
  val : n = valD (s.take k)
  bd : n ≤ most
theorem nums_start (s : List UInt8) (most : Nat) : NumS s most 0 0 := ⟨Nat.zero_le _, fun j hj => by omega, by simp [valD], Nat.zero_le _⟩
theorem NumS.far {s : List UInt8} {e : UInt8} {most k n m : Nat} {r : List UInt8} (h : NumS s most k n) (he : ¬ IsDig e) (hk : NumOk s e most m r) : k ≤ (Lib.decDigits m).length ∧ s.getD (Lib.decDigits m).length 0 = e ∧ (Lib.decDigits m).length < s.length ∧ (∀ j, j < (Lib.decDigits m).length → IsDig (s.getD j 0)) := by
  have hg : s.getD (Lib.decDigits m).length 0 = e := by rw [hk.1, getD_app_right _ _ _ _ (Nat.le_refl _), Nat.sub_self]; rfl
  have hl : (Lib.decDigits m).length < s.length := by rw [hk.1, List.length_append, List.length_cons]; omega
  refine ⟨?_, hg, hl, fun j hj => ?_⟩
  · rcases Nat.lt_or_ge (Lib.decDigits m).length k with h1 | h1
    · have := h.dig _ h1
      rw [hg] at this
      exact absurd this he
    · exact h1
  · rw [hk.1, getD_app_left _ _ _ _ hj, getD_some _ _ _ hj]
    exact (dec_ok m).1.dig _ (List.getElem_mem _)
theorem NumS.done {s : List UInt8} {e : UInt8} {most k n : Nat} (h : NumS s most k n) (he : ¬ IsDig e) (hk : k < s.length) (hs : s.getD k 0 = e) (h0 : 0 < k ∧ (s.getD 0 0 ≠ 48 ∨ k = 1)) : NumOk s e most n (s.drop (k + 1)) := by
  have hl : (s.take k).length = k := by rw [List.length_take]; omega
  have hc : Canon (s.take k) := by
    refine ⟨fun g => by rw [g] at hl; simp at hl; omega, fun c hc => ?_, ?_⟩
    · obtain ⟨j, hj, rfl⟩ := List.getElem_of_mem hc
      have := h.dig j (by omega)
      rw [← getD_some (s.take k) 0 j hj, getD_take _ _ _ _ (by omega)]
      exact this
    · rw [getD_take _ _ _ _ h0.1, hl]; exact h0.2
  refine ⟨?_, h.bd⟩
  rw [h.val, canon_dec _ _ rfl hc, ← hs, ← drop_getD s k 0 hk, List.take_append_drop]
theorem NumS.bad0 {s : List UInt8} {e : UInt8} {most k n : Nat} (h : NumS s most k n) (he : ¬ IsDig e) (hk : k < s.length) (hs : s.getD k 0 = e) (h0 : ¬ (0 < k ∧ (s.getD 0 0 ≠ 48 ∨ k = 1))) (m : Nat) (r : List UInt8) : ¬ NumOk s e most m r := fun hm => by
  obtain ⟨h1, h2, h3, h4⟩ := h.far he hm
  have hkl : k = (Lib.decDigits m).length := by
    rcases Nat.lt_or_ge k (Lib.decDigits m).length with g | g
    · have := h4 k g
      rw [hs] at this
      exact absurd this he
    · omega
  have hc := (dec_ok m).1
  have hp : 0 < (Lib.decDigits m).length := List.length_pos_iff.2 hc.ne
  refine h0 ⟨by omega, ?_⟩
  rcases hc.lead with g | g
  · refine .inl ?_
    rw [hm.1, getD_app_left _ _ _ _ hp]; exact g
  · exact .inr (by omega)
theorem NumS.bad1 {s : List UInt8} {e : UInt8} {most k n : Nat} (h : NumS s most k n) (he : ¬ IsDig e) (hk : k < s.length) (hs : s.getD k 0 ≠ e) (hd : ¬ IsDig (s.getD k 0)) (m : Nat) (r : List UInt8) : ¬ NumOk s e most m r := fun hm => by
  obtain ⟨h1, h2, h3, h4⟩ := h.far he hm
  rcases Nat.lt_or_ge k (Lib.decDigits m).length with g | g
  · exact hd (h4 k g)
  · rw [show (Lib.decDigits m).length = k from by omega] at h2
    exact hs h2
theorem NumS.step {s : List UInt8} {most k n : Nat} (h : NumS s most k n) (hk : k < s.length) (hd : IsDig (s.getD k 0)) (hb : 10 * n + ((s.getD k 0).toNat - 48) ≤ most) : NumS s most (k + 1) (10 * n + ((s.getD k 0).toNat - 48)) :=
  ⟨hk, fun j hj => by
    by_cases e : j = k
    · rw [e]; exact hd
    · exact h.dig j (by omega), by rw [take_succ_getD s k 0 hk, valD_snoc, ← h.val], hb⟩
theorem NumS.bad2 {s : List UInt8} {e : UInt8} {most k n : Nat} (h : NumS s most k n) (he : ¬ IsDig e) (hk : k < s.length) (hd : IsDig (s.getD k 0)) (hb : most < 10 * n + ((s.getD k 0).toNat - 48)) (m : Nat) (r : List UInt8) : ¬ NumOk s e most m r := fun hm => by
  obtain ⟨h1, h2, h3, h4⟩ := h.far he hm
  have hlt : k < (Lib.decDigits m).length := by
    rcases Nat.lt_or_ge k (Lib.decDigits m).length with g | g
    · exact g
    · rw [show (Lib.decDigits m).length = k from by omega] at h2
      rw [h2] at hd
      exact absurd hd he
  have h5 : s.take (k + 1) = (Lib.decDigits m).take (k + 1) := by rw [hm.1, List.take_append_of_le_length (by omega)]
  have h6 : valD (s.take (k + 1)) ≤ m := by
    rw [h5]
    have := valD_le ((Lib.decDigits m).drop (k + 1)) ((Lib.decDigits m).take (k + 1))
    rwa [List.take_append_drop, (dec_ok m).2.1] at this
  rw [take_succ_getD s k 0 hk, valD_snoc, ← h.val] at h6
  have := hm.2
  omega
theorem NumS.bad3 {s : List UInt8} {e : UInt8} {most n : Nat} (h : NumS s most s.length n) (he : ¬ IsDig e) (m : Nat) (r : List UInt8) : ¬ NumOk s e most m r := fun hm => by
  obtain ⟨h1, h2, h3, h4⟩ := h.far he hm
  omega

/-- An edit as a text. -/
def OkXs (x : Ed) : Prop := (0 ≤ x.1 ∧ x.1 ≤ 200) ∧ (0 ≤ x.2.1 ∧ x.2.1 ≤ 200) ∧ x.2.2.size ≤ 40
def itemL (x : Ed) : List UInt8 := Lib.decDigits x.1.toNat ++ 32 :: (Lib.decDigits x.2.1.toNat ++ 32 :: (Lib.decDigits x.2.2.size ++ 58 :: (x.2.2.data.toList ++ [59])))
def writeL : List Ed → List UInt8
  | [] => []
  | x :: l => itemL x ++ writeL l
theorem writeL_app : ∀ a b : List Ed, writeL (a ++ b) = writeL a ++ writeL b
  | [], b => rfl
  | x :: a, b => by rw [List.cons_append, writeL, writeL, writeL_app a b, List.append_assoc]
theorem n32 : ¬ IsDig 32 := by unfold IsDig; decide
theorem n58 : ¬ IsDig 58 := by unfold IsDig; decide
theorem item_ne (x : Ed) : itemL x ≠ [] := by unfold itemL; simp
/-- It begins with an edit. -/
def Heads (s : List UInt8) (x : Ed) (r : List UInt8) : Prop := s = itemL x ++ r ∧ OkXs x
theorem heads_parts {s : List UInt8} {x : Ed} {r : List UInt8} (h : Heads s x r) : ∃ r1 r2 r3, NumOk s 32 200 x.1.toNat r1 ∧ NumOk r1 32 200 x.2.1.toNat r2 ∧ NumOk r2 58 40 x.2.2.size r3 ∧ r3 = x.2.2.data.toList ++ 59 :: r := by
  obtain ⟨h1, h2, h3, h4⟩ := h
  refine ⟨_, _, _, ⟨?_, by omega⟩, ⟨rfl, by omega⟩, ⟨rfl, h4⟩, rfl⟩
  rw [h1]; simp [itemL]
theorem ba_extS {a b : ByteArray} (h : a.data.toList = b.data.toList) : a = b := by
  obtain ⟨⟨a⟩⟩ := a
  obtain ⟨⟨b⟩⟩ := b
  simp at h
  rw [h]
theorem heads_of {s r1 r2 r3 : List UInt8} {a d n : Nat} (h1 : NumOk s 32 200 a r1) (h2 : NumOk r1 32 200 d r2) (h3 : NumOk r2 58 40 n r3) (hl : n < r3.length) (h4 : r3.getD n 0 = 59) (b : ByteArray) (hb : b.data.toList = r3.take n) :
    Heads s ((a : Int), (d : Int), b) (r3.drop (n + 1)) := by
  have hbs : b.size = n := by show b.data.toList.length = n; rw [hb, List.length_take]; omega
  refine ⟨?_, ⟨by have := h1.2; simp; omega, by have := h2.2; simp; omega, by show b.size ≤ 40; have := h3.2; omega⟩⟩
  have e3 : r3 = r3.take n ++ 59 :: r3.drop (n + 1) := by
    rw [← h4, ← drop_getD r3 n 0 hl, List.take_append_drop]
  rw [h1.1, h2.1, h3.1]
  conv => lhs; rw [e3]
  simp [itemL, hb, hbs]
theorem heads_uniq {s : List UInt8} {x y : Ed} {r t : List UInt8} (h : Heads s x r) (k : Heads s y t) : x = y ∧ r = t := by
  obtain ⟨r1, r2, r3, a1, a2, a3, a4⟩ := heads_parts h
  obtain ⟨t1, t2, t3, b1, b2, b3, b4⟩ := heads_parts k
  obtain ⟨e1, rfl⟩ := a1.uniq n32 b1
  obtain ⟨e2, rfl⟩ := a2.uniq n32 b2
  obtain ⟨e3, rfl⟩ := a3.uniq n58 b3
  have e4 := a4.symm.trans b4
  have := List.append_inj e4 e3
  obtain ⟨x1, x2, x3⟩ := x
  obtain ⟨y1, y2, y3⟩ := y
  obtain ⟨_, hx1, hx2, _⟩ := h
  obtain ⟨_, hy1, hy2, _⟩ := k
  simp only at e1 e2 this hx1 hx2 hy1 hy2
  have i1 : x1 = y1 := by omega
  have i2 : x2 = y2 := by omega
  have i3 : x3 = y3 := ba_extS this.1
  rw [i1, i2, i3]
  exact ⟨rfl, by simpa using this.2⟩
/-- No edit begins there. -/
def NoHead (s : List UInt8) : Prop := ∀ x r, ¬ Heads s x r
theorem nohead1 {s : List UInt8} (h : ∀ n r, ¬ NumOk s 32 200 n r) : NoHead s := fun x r hx => by
  obtain ⟨r1, r2, r3, a1, a2, a3, a4⟩ := heads_parts hx
  exact h _ _ a1
theorem nohead2 {s r1 : List UInt8} {a : Nat} (h1 : NumOk s 32 200 a r1) (h : ∀ n r, ¬ NumOk r1 32 200 n r) : NoHead s := fun x r hx => by
  obtain ⟨t1, t2, t3, a1, a2, a3, a4⟩ := heads_parts hx
  obtain ⟨_, rfl⟩ := h1.uniq n32 a1
  exact h _ _ a2
theorem nohead3 {s r1 r2 : List UInt8} {a d : Nat} (h1 : NumOk s 32 200 a r1) (h2 : NumOk r1 32 200 d r2) (h : ∀ n r, ¬ NumOk r2 58 40 n r) : NoHead s := fun x r hx => by
  obtain ⟨t1, t2, t3, a1, a2, a3, a4⟩ := heads_parts hx
  obtain ⟨_, rfl⟩ := h1.uniq n32 a1
  obtain ⟨_, rfl⟩ := h2.uniq n32 a2
  exact h _ _ a3
theorem nohead4 {s r1 r2 r3 : List UInt8} {a d n : Nat} (h1 : NumOk s 32 200 a r1) (h2 : NumOk r1 32 200 d r2) (h3 : NumOk r2 58 40 n r3) (h : ¬ (n < r3.length ∧ r3.getD n 0 = 59)) : NoHead s := fun x r hx => by
  obtain ⟨t1, t2, t3, a1, a2, a3, a4⟩ := heads_parts hx
  obtain ⟨_, rfl⟩ := h1.uniq n32 a1
  obtain ⟨_, rfl⟩ := h2.uniq n32 a2
  obtain ⟨rfl, rfl⟩ := h3.uniq n58 a3
  refine h ⟨?_, ?_⟩
  · rw [a4, List.length_append, List.length_cons]; show x.2.2.data.toList.length < _; omega
  · rw [a4, show x.2.2.size = x.2.2.data.toList.length from rfl, getD_app_right _ _ _ _ (Nat.le_refl _), Nat.sub_self]; rfl
def OkLs (l : List Ed) : Prop := ∀ x ∈ l, OkXs x
theorem write_cancel : ∀ {a l : List Ed} {s : List UInt8}, OkLs a → OkLs l → writeL l = writeL a ++ s → ∃ m, l = a ++ m ∧ s = writeL m
  | [], l, s, _, _, h => ⟨l, rfl, h.symm⟩
  | x :: a, [], s, _, _, h => by
    have := congrArg List.length h
    have hx := List.length_pos_iff.2 (item_ne x)
    rw [writeL, writeL, List.length_append, List.length_append, List.length_nil] at this
    omega
  | x :: a, y :: l, s, ha, hl, h => by
    rw [writeL, writeL, List.append_assoc] at h
    obtain ⟨e, h2⟩ := heads_uniq (s := itemL y ++ writeL l) ⟨rfl, hl y (by simp)⟩ (show Heads (itemL y ++ writeL l) x (writeL a ++ s) from ⟨h, ha x (by simp)⟩)
    obtain ⟨m, h3, h4⟩ := write_cancel (fun z hz => ha z (by simp [hz])) (fun z hz => hl z (by simp [hz])) h2
    exact ⟨m, by rw [e, h3]; rfl, h4⟩
/-- What is read. -/
def ReadOk (s : List UInt8) (l : List Ed) : Prop := s = writeL l ∧ l.length ≤ 20 ∧ OkLs l
theorem read_bad {s0 s : List UInt8} {o : List Ed} (h : s0 = writeL o ++ s) (ho : OkLs o) (hs : s ≠ []) (hb : o.length = 20 ∨ NoHead s) : ∀ l, ¬ ReadOk s0 l := fun l ⟨h1, h2, h3⟩ => by
  obtain ⟨m, e1, e2⟩ := write_cancel ho h3 (h1.symm.trans h)
  cases m with
  | nil => exact hs e2
  | cons x m =>
    rcases hb with hb | hb
    · rw [e1, List.length_append, List.length_cons] at h2; omega
    · exact hb x (writeL m) ⟨e2, h3 x (by rw [e1]; simp)⟩
theorem read_uniq {s : List UInt8} {l m : List Ed} (h : ReadOk s l) (k : ReadOk s m) : l = m := by
  obtain ⟨t, e1, e2⟩ := write_cancel (a := l) (l := m) (s := []) h.2.2 k.2.2 (by rw [List.append_nil, ← h.1, k.1])
  cases t with
  | nil => rw [e1, List.append_nil]
  | cons x t =>
    have := congrArg List.length e2
    have hx := List.length_pos_iff.2 (item_ne x)
    simp [writeL] at this
    omega
theorem dec_len {n : Nat} (hn : n ≤ 200) : (Lib.decDigits n).length ≤ 3 := by
  by_cases g1 : n < 10
  · rw [dec_small g1, List.length_singleton]; omega
  · rw [dec_big g1]
    by_cases g2 : n / 10 < 10
    · rw [dec_small g2]; simp
    · rw [dec_big g2, dec_small (by omega)]; simp
theorem item_len {x : Ed} (h : OkXs x) : (itemL x).length ≤ 1000 := by
  obtain ⟨h1, h2, h3⟩ := h
  have e1 := dec_len (n := x.1.toNat) (by omega)
  have e2 := dec_len (n := x.2.1.toNat) (by omega)
  have e3 := dec_len (n := x.2.2.size) (by omega)
  have e4 : x.2.2.data.toList.length = x.2.2.size := rfl
  simp only [itemL, List.length_append, List.length_cons, List.length_nil]
  omega
theorem write_len : ∀ {l : List Ed}, OkLs l → (writeL l).length ≤ 1000 * l.length
  | [], _ => by simp [writeL]
  | x :: l, h => by
    have h1 := item_len (h x (by simp))
    have h2 := write_len (l := l) fun z hz => h z (by simp [hz])
    rw [writeL, List.length_append, List.length_cons]; omega
end Go.Proofs.YtaogegpfapfchaaGreatDoor

/- Plain: the checksum as a function on lists of bytes, and the bit operations as the walk spells them. -/
namespace Go.Proofs.YtaogegpfapfchaaGreatDoor
open Go.RowKit
set_option linter.unusedVariables false

def st (x : Nat) : Nat := (x / 2) ^^^ (x % 2 * 2197175160)
def stn : Nat → Nat → Nat
  | 0, x => x
  | k + 1, x => st (stn k x)
def upd (x : Nat) (c : UInt8) : Nat := stn 8 (x ^^^ c.toNat)
def sumOf (l : List UInt8) : Nat := 4294967295 ^^^ l.foldl upd 4294967295

theorem st_lt (x : Nat) (h : x < 4294967296) : st x < 4294967296 := by
  unfold st
  refine Nat.xor_lt_two_pow (n := 32) (by omega) ?_
  rcases Nat.mod_two_eq_zero_or_one x with e | e <;> rw [e] <;> decide
theorem stn_lt : ∀ (k x : Nat), x < 4294967296 → stn k x < 4294967296
  | 0, _, h => h
  | k + 1, x, h => st_lt _ (stn_lt k x h)
theorem byte_lt (c : UInt8) : c.toNat < 256 := c.toNat_lt
theorem upd_lt (x : Nat) (c : UInt8) (h : x < 4294967296) : upd x c < 4294967296 :=
  stn_lt _ _ (Nat.xor_lt_two_pow (n := 32) h (by have := byte_lt c; omega))
theorem fold_lt : ∀ (l : List UInt8) (x : Nat), x < 4294967296 → l.foldl upd x < 4294967296
  | [], _, h => h
  | c :: l, x, h => fold_lt l _ (upd_lt x c h)
theorem sumOf_lt (l : List UInt8) : sumOf l < 4294967296 :=
  Nat.xor_lt_two_pow (n := 32) (by decide) (fold_lt l _ (by decide))

theorem xor_byte (X c : Nat) (h : X < 4294967296) (hc : c < 256) : bits .xor .u32 (X : Int) ((c : Int) % 4294967296) = ((X ^^^ c : Nat) : Int) := by
  rw [show ((c : Int) % 4294967296) = (c : Int) from by omega]
  exact u32_xor_nat X c h (by omega)
theorem step_bits (x : Nat) (h : x < 4294967296) : bits .xor .u32 ((x : Int) / 2) (bits .and .u32 (x : Int) 1 * 2197175160 % 4294967296) = ((st x : Nat) : Int) := by
  have h1 : bits .and .u32 (x : Int) 1 = ((x % 2 : Nat) : Int) := by
    have := u32_and_nat x 1 h (by decide)
    rw [nat_mask1] at this
    exact this
  rw [h1]
  have e1 : ((x : Int) / 2) = ((x / 2 : Nat) : Int) := by omega
  have e2 : (((x % 2 : Nat) : Int) * 2197175160 % 4294967296) = ((x % 2 * 2197175160 : Nat) : Int) := by omega
  rw [e1, e2]
  exact u32_xor_nat _ _ (by omega) (by omega)
theorem xor_max (X : Nat) (h : X < 4294967296) : bits .xor .u32 IntKind.u32.max (X : Int) = ((4294967295 ^^^ X : Nat) : Int) := by
  have : IntKind.u32.max = ((4294967295 : Nat) : Int) := by decide
  rw [this]
  exact u32_xor_nat _ _ (by decide) h

/-- A 32-bit number as four bytes, the low one first. -/
def bytes4 (x : Nat) : List UInt8 := [UInt8.ofNat x, UInt8.ofNat (x / 256), UInt8.ofNat (x / 65536), UInt8.ofNat (x / 16777216)]

/-- What Right answers. -/
def rightOf (l : List UInt8) : Bool := decide (4 ≤ l.length) && (bytes4 (sumOf (l.take (l.length - 4))) == l.drop (l.length - 4))

end Go.Proofs.YtaogegpfapfchaaGreatDoor

