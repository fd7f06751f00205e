/- Plain: operations at one text: what shift.Check, shift.Do and shift.Past answer; two of them come to the same, whichever is first. -/
import Derived.Test.YtpeplkjidljpmaaPlain
namespace Go.Proofs.Ytpeplkjidljpmaa
set_option linter.unusedVariables false

abbrev Op3 := Int × Int × UInt8

/-- What Check answers. -/
def chO (n : Int) (x : Op3) : Int :=
  if n < 0 ∨ 200 < n then 1
  else if x.1 = 1 then (if x.2.1 < 0 ∨ n < x.2.1 then 1 else if n = 200 then 11 else 0)
  else if x.1 = 2 then (if x.2.1 < 0 ∨ n ≤ x.2.1 then 1 else if x.2.2 ≠ 0 then 3 else 0)
  else if x.1 = 3 then (if x.2.1 ≠ 0 then 1 else if x.2.2 ≠ 0 then 3 else 0)
  else 3
theorem chO_ok {n : Int} {x : Op3} (h : chO n x = 0) : 0 ≤ n ∧ n ≤ 200 ∧ ((x.1 = 1 ∧ 0 ≤ x.2.1 ∧ x.2.1 ≤ n ∧ n < 200) ∨ (x.1 = 2 ∧ 0 ≤ x.2.1 ∧ x.2.1 < n ∧ x.2.2 = 0) ∨ (x.1 = 3 ∧ x.2.1 = 0 ∧ x.2.2 = 0)) := by
  unfold chO at h
  by_cases h0 : n < 0 ∨ 200 < n
  · rw [if_pos h0] at h; omega
  rw [if_neg h0] at h
  refine ⟨by omega, by omega, ?_⟩
  by_cases h1 : x.1 = 1
  · rw [if_pos h1] at h
    by_cases h2 : x.2.1 < 0 ∨ n < x.2.1
    · rw [if_pos h2] at h; omega
    rw [if_neg h2] at h
    by_cases h3 : n = 200
    · rw [if_pos h3] at h; omega
    exact .inl ⟨h1, by omega, by omega, by omega⟩
  rw [if_neg h1] at h
  by_cases h2 : x.1 = 2
  · rw [if_pos h2] at h
    by_cases h3 : x.2.1 < 0 ∨ n ≤ x.2.1
    · rw [if_pos h3] at h; omega
    rw [if_neg h3] at h
    by_cases h4 : x.2.2 = 0
    · exact .inr (.inl ⟨h2, by omega, by omega, h4⟩)
    · rw [if_pos h4] at h; omega
  rw [if_neg h2] at h
  by_cases h3 : x.1 = 3
  · rw [if_pos h3] at h
    by_cases h4 : x.2.1 = 0
    · rw [if_neg (by simpa using h4)] at h
      by_cases h5 : x.2.2 = 0
      · exact .inr (.inr ⟨h3, h4, h5⟩)
      · rw [if_pos h5] at h; omega
    · rw [if_pos h4] at h; omega
  rw [if_neg h3] at h; omega
theorem chO_put {n a : Int} {b : UInt8} (h0 : 0 ≤ a) (h1 : a ≤ n) (h2 : n < 200) : chO n (1, a, b) = 0 := by
  unfold chO
  rw [if_neg (by omega), if_pos rfl, if_neg (by simp only; omega), if_neg (by omega)]
theorem chO_take {n a : Int} (h0 : 0 ≤ a) (h1 : a < n) (h2 : n ≤ 200) : chO n (2, a, 0) = 0 := by
  unfold chO
  rw [if_neg (by omega), if_neg (by simp), if_pos rfl, if_neg (by simp only; omega), if_neg (by simp)]
theorem chO_none {n : Int} (h0 : 0 ≤ n) (h2 : n ≤ 200) : chO n (3, 0, 0) = 0 := by
  unfold chO
  rw [if_neg (by omega), if_neg (by simp), if_neg (by simp), if_pos rfl, if_neg (by simp), if_neg (by simp)]

/-- What Do makes. -/
def doO (s : List UInt8) (x : Op3) : List UInt8 :=
  if x.1 = 1 then s.take x.2.1.toNat ++ [x.2.2] ++ s.drop x.2.1.toNat
  else if x.1 = 2 then s.take x.2.1.toNat ++ s.drop (x.2.1.toNat + 1)
  else s
/-- By how much it is longer. -/
def sizeO (x : Op3) : Int := if x.1 = 1 then 1 else if x.1 = 2 then -1 else 0
theorem doO_len {s : List UInt8} {x : Op3} (h : chO s.length x = 0) : ((doO s x).length : Int) = s.length + sizeO x := by
  obtain ⟨_, _, ⟨h1, h2, h3, h4⟩ | ⟨h1, h2, h3, h4⟩ | ⟨h1, h2, h3⟩⟩ := chO_ok h <;> unfold doO sizeO
  · rw [if_pos h1, if_pos h1]; simp only [List.length_append, List.length_take, List.length_drop, List.length_singleton]; omega
  · rw [if_neg (by omega), if_pos h1, if_neg (by omega), if_pos h1]; simp only [List.length_append, List.length_take, List.length_drop]; omega
  · rw [if_neg (by omega), if_neg (by omega), if_neg (by omega), if_neg (by omega)]; omega

/-- What Past answers of two right ones. -/
def pst (x y : Op3) (first : Bool) : Op3 :=
  if x.1 = 3 ∨ y.1 = 3 then x
  else if x.1 = 2 ∧ y.1 = 2 ∧ x.2.1 = y.2.1 then (3, 0, 0)
  else if y.1 = 1 ∧ (y.2.1 < x.2.1 ∨ (y.2.1 = x.2.1 ∧ (x.1 = 2 ∨ first = false))) then (x.1, x.2.1 + 1, x.2.2)
  else if y.1 = 2 ∧ y.2.1 < x.2.1 then (x.1, x.2.1 - 1, x.2.2)
  else x

theorem ins_at (s : List UInt8) (a : Nat) (b : UInt8) (h : a ≤ s.length) (i : Nat) : (s.take a ++ [b] ++ s.drop a)[i]? = if i < a then s[i]? else if i = a then some b else s[i - 1]? := by
  have hl : (s.take a).length = a := by rw [List.length_take]; omega
  rw [List.append_assoc, List.getElem?_append, hl, List.getElem?_take]
  by_cases h1 : i < a
  · rw [if_pos h1, if_pos h1, if_pos h1]
  rw [if_neg h1, if_neg h1, List.getElem?_append, List.length_singleton]
  by_cases h2 : i = a
  · rw [if_pos h2, if_pos (by omega), show i - a = 0 from by omega]; rfl
  · rw [if_neg h2, if_neg (by omega), List.getElem?_drop]; congr 1; omega
theorem del_at (s : List UInt8) (a : Nat) (h : a < s.length) (i : Nat) : (s.take a ++ s.drop (a + 1))[i]? = if i < a then s[i]? else s[i + 1]? := by
  have hl : (s.take a).length = a := by rw [List.length_take]; omega
  rw [List.getElem?_append, hl, List.getElem?_take]
  by_cases h1 : i < a
  · rw [if_pos h1, if_pos h1, if_pos h1]
  rw [if_neg h1, if_neg h1, List.getElem?_drop]; congr 1; omega
theorem ins_len (s : List UInt8) (a : Nat) (b : UInt8) (h : a ≤ s.length) : (s.take a ++ [b] ++ s.drop a).length = s.length + 1 := by
  simp only [List.length_append, List.length_take, List.length_drop, List.length_singleton]; omega
theorem del_len (s : List UInt8) (a : Nat) (h : a < s.length) : (s.take a ++ s.drop (a + 1)).length = s.length - 1 := by
  simp only [List.length_append, List.length_take, List.length_drop]; omega

theorem ins_ins (s : List UInt8) (p q : Nat) (b c : UInt8) (hpq : p ≤ q) (hq : q ≤ s.length) :
    (s.take q ++ [c] ++ s.drop q).take p ++ [b] ++ (s.take q ++ [c] ++ s.drop q).drop p = (s.take p ++ [b] ++ s.drop p).take (q + 1) ++ [c] ++ (s.take p ++ [b] ++ s.drop p).drop (q + 1) := by
  refine List.ext_getElem? fun i => ?_
  rw [ins_at _ p b (by rw [ins_len _ _ _ hq]; omega), ins_at _ (q + 1) c (by rw [ins_len _ _ _ (by omega)]; omega), ins_at s q c hq, ins_at s q c hq, ins_at s p b (by omega), ins_at s p b (by omega)]
  by_cases h1 : i < p
  · rw [if_pos h1, if_pos (by omega), if_pos (by omega), if_pos h1]
  rw [if_neg h1]
  by_cases h2 : i = p
  · rw [if_pos h2, if_pos (by omega), if_neg h1, if_pos h2]
  rw [if_neg h2]
  by_cases h3 : i < q + 1
  · rw [if_pos (by omega), if_pos h3, if_neg h1, if_neg h2]
  rw [if_neg (by omega), if_neg h3]
  by_cases h4 : i = q + 1
  · rw [if_pos (by omega), if_pos h4]
  rw [if_neg (by omega), if_neg h4, if_neg (by omega), if_neg (by omega)]
theorem ins_del (s : List UInt8) (p q : Nat) (b : UInt8) (hpq : p ≤ q) (hq : q < s.length) :
    (s.take q ++ s.drop (q + 1)).take p ++ [b] ++ (s.take q ++ s.drop (q + 1)).drop p = (s.take p ++ [b] ++ s.drop p).take (q + 1) ++ (s.take p ++ [b] ++ s.drop p).drop (q + 1 + 1) := by
  refine List.ext_getElem? fun i => ?_
  rw [ins_at _ p b (by rw [del_len _ _ hq]; omega), del_at _ (q + 1) (by rw [ins_len _ _ _ (by omega)]; omega), del_at s q hq, del_at s q hq, ins_at s p b (by omega), ins_at s p b (by omega)]
  by_cases h1 : i < p
  · rw [if_pos h1, if_pos (by omega), if_pos (by omega), if_pos h1]
  rw [if_neg h1]
  by_cases h2 : i = p
  · rw [if_pos h2, if_pos (by omega), if_neg h1, if_pos h2]
  rw [if_neg h2]
  by_cases h3 : i < q + 1
  · rw [if_pos (by omega), if_pos h3, if_neg h1, if_neg h2]
  rw [if_neg (by omega), if_neg h3, if_neg (by omega), if_neg (by omega)]
  congr 1; omega
theorem del_ins (s : List UInt8) (p q : Nat) (b : UInt8) (hpq : p < q) (hq : q ≤ s.length) :
    (s.take q ++ [b] ++ s.drop q).take p ++ (s.take q ++ [b] ++ s.drop q).drop (p + 1) = (s.take p ++ s.drop (p + 1)).take (q - 1) ++ [b] ++ (s.take p ++ s.drop (p + 1)).drop (q - 1) := by
  refine List.ext_getElem? fun i => ?_
  rw [del_at _ p (by rw [ins_len _ _ _ hq]; omega), ins_at _ (q - 1) b (by rw [del_len _ _ (by omega)]; omega), ins_at s q b hq, ins_at s q b hq, del_at s p (by omega), del_at s p (by omega)]
  by_cases h1 : i < p
  · rw [if_pos h1, if_pos (by omega), if_pos (by omega), if_pos h1]
  rw [if_neg h1]
  by_cases h3 : i < q - 1
  · rw [if_pos (by omega), if_pos h3, if_neg h1]
  rw [if_neg (by omega), if_neg h3]
  by_cases h4 : i = q - 1
  · rw [if_pos (by omega), if_pos h4]
  rw [if_neg (by omega), if_neg h4, if_neg (by omega)]
  congr 1; omega
theorem del_del (s : List UInt8) (p q : Nat) (hpq : p < q) (hq : q < s.length) :
    (s.take q ++ s.drop (q + 1)).take p ++ (s.take q ++ s.drop (q + 1)).drop (p + 1) = (s.take p ++ s.drop (p + 1)).take (q - 1) ++ (s.take p ++ s.drop (p + 1)).drop (q - 1 + 1) := by
  refine List.ext_getElem? fun i => ?_
  rw [del_at _ p (by rw [del_len _ _ hq]; omega), del_at _ (q - 1) (by rw [del_len _ _ (by omega)]; omega), del_at s q hq, del_at s q hq, del_at s p (by omega), del_at s p (by omega)]
  by_cases h1 : i < p
  · rw [if_pos h1, if_pos (by omega), if_pos (by omega), if_pos h1]
  rw [if_neg h1]
  by_cases h3 : i < q - 1
  · rw [if_pos (by omega), if_pos h3, if_neg h1]
  rw [if_neg (by omega), if_neg h3, if_neg (by omega)]

theorem doO_put (s : List UInt8) (a : Nat) (b : UInt8) : doO s (1, (a : Int), b) = s.take a ++ [b] ++ s.drop a := by unfold doO; rw [if_pos rfl, Int.toNat_natCast]
theorem doO_take (s : List UInt8) (a : Nat) (b : UInt8) : doO s (2, (a : Int), b) = s.take a ++ s.drop (a + 1) := by unfold doO; rw [if_neg (by simp), if_pos rfl, Int.toNat_natCast]
theorem doO_none (s : List UInt8) (a : Int) (b : UInt8) : doO s (3, a, b) = s := by unfold doO; rw [if_neg (by simp), if_neg (by simp)]
theorem pst_none_left (a : Int) (b : UInt8) (y : Op3) (f : Bool) : pst (3, a, b) y f = (3, a, b) := by unfold pst; rw [if_pos (.inl rfl)]
theorem pst_none_right (x : Op3) (a : Int) (b : UInt8) (f : Bool) : pst x (3, a, b) f = x := by unfold pst; rw [if_pos (.inr rfl)]
theorem pst_put_put (a : Int) (b : UInt8) (c : Int) (d : UInt8) (f : Bool) : pst (1, a, b) (1, c, d) f = if c < a ∨ (c = a ∧ f = false) then (1, a + 1, b) else (1, a, b) := by
  unfold pst
  rw [if_neg (by simp), if_neg (by simp)]
  by_cases h : c < a ∨ (c = a ∧ f = false)
  · rw [if_pos h, if_pos ⟨rfl, by rcases h with h | ⟨h, g⟩; exact .inl h; exact .inr ⟨h, .inr g⟩⟩]
  · rw [if_neg h, if_neg (by rintro ⟨_, h1 | ⟨h1, h2 | h2⟩⟩; exact h (.inl h1); exact absurd h2 (by simp); exact h (.inr ⟨h1, h2⟩)), if_neg (by simp)]
theorem pst_take_put (a : Int) (b : UInt8) (c : Int) (d : UInt8) (f : Bool) : pst (2, a, b) (1, c, d) f = if c ≤ a then (2, a + 1, b) else (2, a, b) := by
  unfold pst
  rw [if_neg (by simp), if_neg (by simp)]
  by_cases h : c ≤ a
  · rw [if_pos h, if_pos ⟨rfl, by rcases Int.lt_or_eq_of_le h with h | h; exact .inl h; exact .inr ⟨h, .inl rfl⟩⟩]
  · rw [if_neg h, if_neg (by rintro ⟨_, h1 | ⟨h1, _⟩⟩; simp only at h1; omega; simp only at h1; omega), if_neg (by simp)]
theorem pst_put_take (a : Int) (b : UInt8) (c : Int) (d : UInt8) (f : Bool) : pst (1, a, b) (2, c, d) f = if c < a then (1, a - 1, b) else (1, a, b) := by
  unfold pst
  rw [if_neg (by simp), if_neg (by simp), if_neg (by simp)]
  by_cases h : c < a
  · rw [if_pos h, if_pos ⟨rfl, h⟩]
  · rw [if_neg h, if_neg (fun hh => h hh.2)]
theorem pst_take_take (a : Int) (b : UInt8) (c : Int) (d : UInt8) (f : Bool) : pst (2, a, b) (2, c, d) f = if a = c then (3, 0, 0) else if c < a then (2, a - 1, b) else (2, a, b) := by
  unfold pst
  rw [if_neg (by simp)]
  by_cases h0 : a = c
  · rw [if_pos h0, if_pos ⟨rfl, rfl, h0⟩]
  rw [if_neg h0, if_neg (fun hh => h0 hh.2.2), if_neg (by simp)]
  by_cases h : c < a
  · rw [if_pos h, if_pos ⟨rfl, h⟩]
  · rw [if_neg h, if_neg (fun hh => h hh.2)]

/-- How many bytes are put. -/
def pO (x : Op3) : Int := if x.1 = 1 then 1 else 0
theorem pO_le (x : Op3) : 0 ≤ pO x ∧ pO x ≤ 1 := by unfold pO; split <;> omega
theorem pO_1 (a : Int) (b : UInt8) : pO (1, a, b) = 1 := rfl
theorem pO_2 (a : Int) (b : UInt8) : pO (2, a, b) = 0 := rfl
theorem pO_3 (a : Int) (b : UInt8) : pO (3, a, b) = 0 := rfl
/-- Each past the other one: right at the text behind the other one, and both ways come to the same. -/
theorem shift_two' {s : List UInt8} {x y : Op3} (hx : chO s.length x = 0) (hy : chO s.length y = 0) (hs : (s.length : Int) + pO x + pO y ≤ 200) :
    chO (doO s y).length (pst x y true) = 0 ∧ chO (doO s x).length (pst y x false) = 0 ∧ doO (doO s y) (pst x y true) = doO (doO s x) (pst y x false) := by
  have lx := doO_len hx
  have ly := doO_len hy
  rw [lx, ly]
  obtain ⟨k, a, b⟩ := x
  obtain ⟨l, c, d⟩ := y
  obtain ⟨_, _, hx⟩ := chO_ok hx
  obtain ⟨_, _, hy⟩ := chO_ok hy
  simp only at hx hy
  have p1 := pO_1
  have p2 := pO_2
  have p3 := pO_3
  have s1 : ∀ a b, sizeO (1, a, b) = 1 := fun a b => rfl
  have s2 : ∀ a b, sizeO (2, a, b) = -1 := fun a b => rfl
  have s3 : ∀ a b, sizeO (3, a, b) = 0 := fun a b => rfl
  rcases hx with ⟨rfl, hx1, hx2, _⟩ | ⟨rfl, hx1, hx2, rfl⟩ | ⟨rfl, rfl, rfl⟩ <;> simp only [p1, p2, p3] at hs
  · obtain ⟨a, rfl⟩ : ∃ m : Nat, a = m := ⟨a.toNat, by omega⟩
    rcases hy with ⟨rfl, hy1, hy2, _⟩ | ⟨rfl, hy1, hy2, rfl⟩ | ⟨rfl, rfl, rfl⟩ <;> simp only [p1, p2, p3] at hs
    · obtain ⟨c, rfl⟩ : ∃ m : Nat, c = m := ⟨c.toNat, by omega⟩
      rw [pst_put_put, pst_put_put, s1, s1]
      by_cases h : (c : Int) < a
      · rw [if_pos (.inl h), if_neg (by omega)]
        refine ⟨chO_put (by omega) (by omega) (by omega), chO_put (by omega) (by omega) (by omega), ?_⟩
        rw [doO_put, doO_put, doO_put, show (a : Int) + 1 = ((a + 1 : Nat) : Int) from rfl, doO_put]
        exact (ins_ins s c a d b (by omega) (by omega)).symm
      · rw [if_neg (by simp; omega), if_pos (by simp; omega)]
        refine ⟨chO_put (by omega) (by omega) (by omega), chO_put (by omega) (by omega) (by omega), ?_⟩
        rw [doO_put, doO_put, doO_put, show (c : Int) + 1 = ((c + 1 : Nat) : Int) from rfl, doO_put]
        exact ins_ins s a c b d (by omega) (by omega)
    · obtain ⟨c, rfl⟩ : ∃ m : Nat, c = m := ⟨c.toNat, by omega⟩
      rw [pst_put_take, pst_take_put, s1, s2]
      by_cases h : (c : Int) < a
      · rw [if_pos h, if_neg (by omega)]
        refine ⟨chO_put (by omega) (by omega) (by omega), chO_take (by omega) (by omega) (by omega), ?_⟩
        rw [doO_take, doO_put, doO_take, show (a : Int) - 1 = ((a - 1 : Nat) : Int) from by omega, doO_put]
        exact (del_ins s c a b (by omega) (by omega)).symm
      · rw [if_neg h, if_pos (by omega)]
        refine ⟨chO_put (by omega) (by omega) (by omega), chO_take (by omega) (by omega) (by omega), ?_⟩
        rw [doO_take, doO_put, doO_put, show (c : Int) + 1 = ((c + 1 : Nat) : Int) from rfl, doO_take]
        exact ins_del s a c b (by omega) (by omega)
    · rw [pst_none_right, pst_none_left, doO_none, doO_none, s1, s3]
      exact ⟨chO_put (by omega) (by omega) (by omega), chO_none (by omega) (by omega), rfl⟩
  · obtain ⟨a, rfl⟩ : ∃ m : Nat, a = m := ⟨a.toNat, by omega⟩
    rcases hy with ⟨rfl, hy1, hy2, _⟩ | ⟨rfl, hy1, hy2, rfl⟩ | ⟨rfl, rfl, rfl⟩ <;> simp only [p1, p2, p3] at hs
    · obtain ⟨c, rfl⟩ : ∃ m : Nat, c = m := ⟨c.toNat, by omega⟩
      rw [pst_take_put, pst_put_take, s1, s2]
      by_cases h : (c : Int) ≤ a
      · rw [if_pos h, if_neg (by omega)]
        refine ⟨chO_take (by omega) (by omega) (by omega), chO_put (by omega) (by omega) (by omega), ?_⟩
        rw [doO_put, doO_take, doO_put, show (a : Int) + 1 = ((a + 1 : Nat) : Int) from rfl, doO_take]
        exact (ins_del s c a d (by omega) (by omega)).symm
      · rw [if_neg h, if_pos (by omega)]
        refine ⟨chO_take (by omega) (by omega) (by omega), chO_put (by omega) (by omega) (by omega), ?_⟩
        rw [doO_put, doO_take, doO_take, show (c : Int) - 1 = ((c - 1 : Nat) : Int) from by omega, doO_put]
        exact del_ins s a c d (by omega) (by omega)
    · obtain ⟨c, rfl⟩ : ∃ m : Nat, c = m := ⟨c.toNat, by omega⟩
      rw [pst_take_take, pst_take_take, s2, s2]
      by_cases h0 : (a : Int) = c
      · rw [if_pos h0, if_pos h0.symm, doO_none, doO_none, h0]
        exact ⟨chO_none (by omega) (by omega), chO_none (by omega) (by omega), rfl⟩
      rw [if_neg h0, if_neg (show ¬ (c : Int) = a from fun h => h0 h.symm)]
      by_cases h : (c : Int) < a
      · rw [if_pos h, if_neg (by omega)]
        refine ⟨chO_take (by omega) (by omega) (by omega), chO_take (by omega) (by omega) (by omega), ?_⟩
        rw [doO_take, doO_take, doO_take, show (a : Int) - 1 = ((a - 1 : Nat) : Int) from by omega, doO_take]
        exact (del_del s c a (by omega) (by omega)).symm
      · rw [if_neg h, if_pos (by omega)]
        refine ⟨chO_take (by omega) (by omega) (by omega), chO_take (by omega) (by omega) (by omega), ?_⟩
        rw [doO_take, doO_take, doO_take, show (c : Int) - 1 = ((c - 1 : Nat) : Int) from by omega, doO_take]
        exact del_del s a c (by omega) (by omega)
    · rw [pst_none_right, pst_none_left, doO_none, doO_none, s2, s3]
      exact ⟨chO_take (by omega) (by omega) (by omega), chO_none (by omega) (by omega), rfl⟩
  · rw [pst_none_left, pst_none_right, doO_none, doO_none, s3]
    refine ⟨chO_none (by omega) ?_, ?_, rfl⟩
    · rcases hy with ⟨rfl, _, _, _⟩ | ⟨rfl, _, _, _⟩ | ⟨rfl, _, _⟩
      · rw [s1]; omega
      · rw [s2]; omega
      · rw [s3]; omega
    · rw [Int.add_zero]
      rcases hy with ⟨rfl, h1, h2, _⟩ | ⟨rfl, h1, h2, rfl⟩ | ⟨rfl, rfl, rfl⟩
      · exact chO_put (by omega) (by omega) (by omega)
      · exact chO_take (by omega) (by omega) (by omega)
      · exact chO_none (by omega) (by omega)

theorem shift_two {s : List UInt8} {x y : Op3} (hx : chO s.length x = 0) (hy : chO s.length y = 0) (hs : s.length < 199) :
    chO (doO s y).length (pst x y true) = 0 ∧ chO (doO s x).length (pst y x false) = 0 ∧ doO (doO s y) (pst x y true) = doO (doO s x) (pst y x false) :=
  shift_two' hx hy (by have := pO_le x; have := pO_le y; omega)

end Go.Proofs.Ytpeplkjidljpmaa
