/- Plain: rows of operations, each past the other one (what shift.All answers). -/
import Derived.Test.YtpeplkjidljpmaaShift
import Derived.Test.YtpeplkjidljpmaaLib
namespace Go.Proofs.Ytpeplkjidljpmaa
open Go.RowKit
set_option linter.unusedVariables false

def sumO : List Op3 → Int
  | [] => 0
  | x :: l => sizeO x + sumO l
def putsO : List Op3 → Int
  | [] => 0
  | x :: l => pO x + putsO l
def rowE (n : Int) : List Op3 → Int
  | [] => 0
  | x :: l => if chO n x ≠ 0 then chO n x else rowE (n + sizeO x) l
def rowO (s : List UInt8) (l : List Op3) : List UInt8 := l.foldl doO s
def inn (x : Op3) : List Op3 → Op3 × List Op3
  | [] => (x, [])
  | y :: l => ((inn (pst x y true) l).1, pst y x false :: (inn (pst x y true) l).2)
def allO : List Op3 → List Op3 → List Op3 × List Op3
  | [], b => ([], b)
  | x :: a, b => ((inn x b).1 :: (allO a (inn x b).2).1, (allO a (inn x b).2).2)
def stepE (n tot : Int) (l : List Op3) : Int := if rowE n l ≠ 0 then rowE n l else if 200 < IntKind.i64.wrap (n + sumO l + tot) then 11 else 0

theorem sizeO_le (x : Op3) : -1 ≤ sizeO x ∧ sizeO x ≤ 1 := by unfold sizeO; split; omega; split <;> omega
theorem sumO_le : ∀ l : List Op3, -(l.length : Int) ≤ sumO l ∧ sumO l ≤ l.length
  | [] => ⟨by simp [sumO], by simp [sumO]⟩
  | x :: l => by have := sumO_le l; have := sizeO_le x; simp only [sumO, List.length_cons]; omega
theorem putsO_nonneg : ∀ l : List Op3, 0 ≤ putsO l
  | [] => Int.le_refl _
  | x :: l => by have := putsO_nonneg l; have := pO_le x; simp only [putsO]; omega
theorem puts_sum : ∀ l : List Op3, 2 * putsO l ≤ sumO l + l.length
  | [] => by simp [sumO, putsO]
  | x :: l => by
    have := puts_sum l
    have : 2 * pO x ≤ sizeO x + 1 := by unfold pO sizeO; split; omega; split <;> omega
    simp only [sumO, putsO, List.length_cons]; omega
theorem sumO_append (l m : List Op3) : sumO (l ++ m) = sumO l + sumO m := by
  induction l with
  | nil => simp [sumO]
  | cons x l ih => simp only [List.cons_append, sumO, ih]; omega
theorem putsO_append (l m : List Op3) : putsO (l ++ m) = putsO l + putsO m := by
  induction l with
  | nil => simp [putsO]
  | cons x l ih => simp only [List.cons_append, putsO, ih]; omega
theorem rowE_append (n : Int) (l m : List Op3) (h : rowE n l = 0) : rowE n (l ++ m) = rowE (n + sumO l) m := by
  induction l generalizing n with
  | nil => simp [sumO]
  | cons x l ih =>
    simp only [rowE] at h
    by_cases h1 : chO n x ≠ 0
    · rw [if_pos h1] at h; exact absurd h h1
    rw [if_neg h1] at h
    simp only [List.cons_append, rowE, sumO]
    rw [if_neg h1, ih _ h]; congr 1; omega
theorem rowE_front (n : Int) (l m : List Op3) (h : rowE n (l ++ m) = 0) : rowE n l = 0 := by
  induction l generalizing n with
  | nil => rfl
  | cons x l ih =>
    simp only [List.cons_append, rowE] at h ⊢
    by_cases h1 : chO n x ≠ 0
    · rw [if_pos h1] at h; exact absurd h h1
    rw [if_neg h1] at h ⊢
    exact ih _ h
theorem rowE_cons {n : Int} {x : Op3} {l : List Op3} (h : rowE n (x :: l) = 0) : chO n x = 0 ∧ rowE (n + sizeO x) l = 0 := by
  simp only [rowE] at h
  by_cases h1 : chO n x ≠ 0
  · rw [if_pos h1] at h; exact absurd h h1
  rw [if_neg h1] at h
  exact ⟨by simpa using h1, h⟩
theorem rowE_mk {n : Int} {x : Op3} {l : List Op3} (h : chO n x = 0) (h2 : rowE (n + sizeO x) l = 0) : rowE n (x :: l) = 0 := by
  simp only [rowE]; rw [if_neg (by simpa using h), h2]
/-- Every op of a right row is right at some length. -/
theorem rowE_mem : ∀ {l : List Op3} {n : Int}, rowE n l = 0 → ∀ x ∈ l, ∃ m, chO m x = 0
  | [], n, _, x, hx => by cases hx
  | y :: l, n, h, x, hx => by
    obtain ⟨h1, h2⟩ := rowE_cons h
    rcases List.mem_cons.1 hx with rfl | hx
    · exact ⟨n, h1⟩
    · exact rowE_mem h2 x hx
theorem rowO_len : ∀ {l : List Op3} {s : List UInt8}, rowE s.length l = 0 → ((rowO s l).length : Int) = s.length + sumO l
  | [], s, _ => by simp [rowO, sumO]
  | x :: l, s, h => by
    obtain ⟨h1, h2⟩ := rowE_cons h
    have e := doO_len h1
    rw [← e] at h2
    have := rowO_len h2
    show ((rowO (doO s x) l).length : Int) = _
    rw [this, e]; simp only [sumO]; omega
theorem rowO_append (s : List UInt8) (l m : List Op3) : rowO s (l ++ m) = rowO (rowO s l) m := by simp [rowO]
theorem pO_pst (x y : Op3) (f : Bool) : pO (pst x y f) ≤ pO x := by
  unfold pst
  split
  · exact Int.le_refl _
  split
  · rw [pO_3]; exact (pO_le x).1
  split
  · exact Int.le_refl _
  split <;> exact Int.le_refl _

theorem inn_len (x : Op3) (l : List Op3) : (inn x l).2.length = l.length := by
  induction l generalizing x with
  | nil => rfl
  | cons y l ih => simp only [inn, List.length_cons, ih]
theorem inn_snoc (x y : Op3) (l : List Op3) : inn x (l ++ [y]) = (pst (inn x l).1 y true, (inn x l).2 ++ [pst y (inn x l).1 false]) := by
  induction l generalizing x with
  | nil => rfl
  | cons z l ih => simp only [List.cons_append, inn, ih]
theorem allO_len (a b : List Op3) : (allO a b).1.length = a.length ∧ (allO a b).2.length = b.length := by
  induction a generalizing b with
  | nil => exact ⟨rfl, rfl⟩
  | cons x a ih => simp only [allO, List.length_cons, (ih _).1, (ih _).2, inn_len, and_self]
theorem allO_snoc (a b : List Op3) (x : Op3) : allO (a ++ [x]) b = ((allO a b).1 ++ [(inn x (allO a b).2).1], (inn x (allO a b).2).2) := by
  induction a generalizing b with
  | nil => rfl
  | cons z a ih => simp only [List.cons_append, allO, ih]
theorem inn_nil_all (a : List Op3) : allO a [] = (a, []) := by
  induction a with
  | nil => rfl
  | cons x a ih => simp only [allO, inn, ih]
theorem allO_take (a b : List Op3) (k : Nat) : (allO (a.take k) b).1 = (allO a b).1.take k := by
  induction a generalizing b k with
  | nil => simp [allO]
  | cons x a ih =>
    cases k with
    | zero => simp [allO]
    | succ k => simp only [List.take_succ_cons, allO, ih]

theorem inn_ok : ∀ {l : List Op3} {s : List UInt8} {x : Op3}, chO s.length x = 0 → rowE s.length l = 0 → (s.length : Int) + pO x + putsO l ≤ 200 →
    chO (rowO s l).length (inn x l).1 = 0 ∧ rowE (doO s x).length (inn x l).2 = 0 ∧ rowO (doO s x) (inn x l).2 = doO (rowO s l) (inn x l).1 ∧ pO (inn x l).1 ≤ pO x ∧ putsO (inn x l).2 ≤ putsO l
  | [], s, x, hx, _, _ => ⟨hx, rfl, rfl, Int.le_refl _, Int.le_refl _⟩
  | y :: l, s, x, hx, hl, hs => by
    obtain ⟨hy, hl⟩ := rowE_cons hl
    simp only [putsO] at hs
    have hp := putsO_nonneg l
    obtain ⟨t1, t2, t3⟩ := shift_two' hx hy (by omega)
    have ly := doO_len hy
    rw [← ly] at hl
    have hpz := pO_pst x y true
    have hpy := pO_pst y x false
    have hsy : sizeO y ≤ pO y := by unfold sizeO pO; split; omega; split <;> omega
    obtain ⟨i1, i2, i3, i4, i5⟩ := inn_ok t1 hl (by omega)
    rw [t3] at i2 i3
    have l2 := doO_len t2
    refine ⟨i1, rowE_mk t2 ?_, i3, Int.le_trans i4 hpz, ?_⟩
    · rw [← l2]; exact i2
    · simp only [inn, putsO]; omega
theorem all_right : ∀ {a b : List Op3} {s : List UInt8}, rowE s.length a = 0 → rowE s.length b = 0 → (s.length : Int) + putsO a + putsO b ≤ 200 →
    rowE (rowO s b).length (allO a b).1 = 0 ∧ rowE (rowO s a).length (allO a b).2 = 0 ∧ rowO (rowO s b) (allO a b).1 = rowO (rowO s a) (allO a b).2 ∧ putsO (allO a b).2 ≤ putsO b
  | [], b, s, _, hb, _ => ⟨rfl, hb, rfl, Int.le_refl _⟩
  | x :: a, b, s, ha, hb, hs => by
    obtain ⟨hx, ha⟩ := rowE_cons ha
    simp only [putsO] at hs
    have hp := putsO_nonneg a
    obtain ⟨i1, i2, i3, i4, i5⟩ := inn_ok hx hb (by omega)
    have lx := doO_len hx
    rw [← lx] at ha
    have hsx : sizeO x ≤ pO x := by unfold sizeO pO; split; omega; split <;> omega
    obtain ⟨j1, j2, j3, j4⟩ := all_right (a := a) (b := (inn x b).2) (s := doO s x) ha i2 (by omega)
    have l1 := doO_len i1
    rw [i3] at j1 j3
    refine ⟨rowE_mk i1 ?_, j2, j3, Int.le_trans j4 i5⟩
    rw [← l1]; exact j1

def allE (n : Int) (a b : List Op3) : Int :=
  if 30 < a.length ∨ 30 < b.length then 2
  else if stepE n ((a.length : Int) + b.length) a ≠ 0 then stepE n ((a.length : Int) + b.length) a
  else stepE n ((a.length : Int) + b.length) b

theorem stepE_ok {n t : Int} {l : List Op3} (h : stepE n t l = 0) : rowE n l = 0 ∧ IntKind.i64.wrap (n + sumO l + t) ≤ 200 := by
  unfold stepE at h
  by_cases h1 : rowE n l ≠ 0
  · rw [if_pos h1] at h; exact absurd h h1
  rw [if_neg h1] at h
  refine ⟨by simpa using h1, ?_⟩
  by_cases h2 : 200 < IntKind.i64.wrap (n + sumO l + t)
  · rw [if_pos h2] at h; omega
  · omega
theorem stepE_mk {n t : Int} {l : List Op3} (h1 : rowE n l = 0) (h2 : IntKind.i64.wrap (n + sumO l + t) ≤ 200) : stepE n t l = 0 := by
  unfold stepE; rw [if_neg (by simpa using h1), if_neg (by omega)]
theorem rowE_range {n : Int} {l : List Op3} (h : rowE n l = 0) (h0 : 0 < l.length) : 0 ≤ n ∧ n ≤ 200 := by
  cases l with
  | nil => simp at h0
  | cons x l => obtain ⟨h1, _⟩ := rowE_cons h; obtain ⟨a, b, _⟩ := chO_ok h1; exact ⟨a, b⟩
theorem wrap_small {x : Int} (h1 : -9223372036854775808 ≤ x) (h2 : x ≤ 9223372036854775807) : IntKind.i64.wrap x = x := by rw [IntKind.wrap_i64]; omega

/-- What it means that All's answer is OK. -/
structure AllOk (n : Int) (a b : List Op3) : Prop where
  la : a.length ≤ 30
  lb : b.length ≤ 30
  ra : rowE n a = 0
  rb : rowE n b = 0
  wa : IntKind.i64.wrap (n + sumO a + ((a.length : Int) + b.length)) ≤ 200
  wb : IntKind.i64.wrap (n + sumO b + ((a.length : Int) + b.length)) ≤ 200
theorem allE_ok {n : Int} {a b : List Op3} (h : allE n a b = 0) : AllOk n a b := by
  unfold allE at h
  by_cases h0 : 30 < a.length ∨ 30 < b.length
  · rw [if_pos h0] at h; omega
  rw [if_neg h0] at h
  by_cases h1 : stepE n ((a.length : Int) + b.length) a ≠ 0
  · rw [if_pos h1] at h; exact absurd h h1
  rw [if_neg h1] at h
  have h1 : stepE n ((a.length : Int) + b.length) a = 0 := by simpa using h1
  obtain ⟨r1, w1⟩ := stepE_ok h1
  obtain ⟨r2, w2⟩ := stepE_ok h
  exact ⟨by omega, by omega, r1, r2, w1, w2⟩
theorem AllOk.mk' {n : Int} {a b : List Op3} (h : AllOk n a b) : allE n a b = 0 := by
  unfold allE
  have h1 := stepE_mk h.ra h.wa
  have h2 := stepE_mk h.rb h.wb
  have := h.la
  have := h.lb
  rw [if_neg (by omega), if_neg (by simpa using h1), h2]
theorem AllOk.range {n : Int} {a b : List Op3} (h : AllOk n a b) (h0 : 0 < a.length ∨ 0 < b.length) : 0 ≤ n ∧ n ≤ 200 ∧ n + sumO a + (a.length + b.length) ≤ 200 ∧ n + sumO b + (a.length + b.length) ≤ 200 ∧ n + putsO a + putsO b ≤ 200 := by
  have hr : 0 ≤ n ∧ n ≤ 200 := by
    rcases h0 with h0 | h0
    · exact rowE_range h.ra h0
    · exact rowE_range h.rb h0
  have sa := sumO_le a
  have sb := sumO_le b
  have la := h.la
  have lb := h.lb
  have wa := h.wa
  have wb := h.wb
  rw [wrap_small (by omega) (by omega)] at wa wb
  have pa := puts_sum a
  have pb := puts_sum b
  have na := putsO_nonneg a
  have nb := putsO_nonneg b
  refine ⟨hr.1, hr.2, wa, wb, ?_⟩
  omega

/-- The text of n bytes. -/
def zs (n : Int) : List UInt8 := List.replicate n.toNat 0
theorem zs_len {n : Int} (h : 0 ≤ n) : ((zs n).length : Int) = n := by unfold zs; rw [List.length_replicate]; omega

theorem all_inv {n : Int} {a b : List Op3} (h : AllOk n a b) (i : Nat) (hi : i ≤ a.length) (h0 : 0 < a.length) :
    ∃ s : List UInt8, (s.length : Int) = n + sumO (a.take i) ∧ rowE s.length (allO (a.take i) b).2 = 0 ∧ rowE s.length (a.drop i) = 0 ∧ (s.length : Int) + putsO (a.drop i) + putsO (allO (a.take i) b).2 ≤ 200 := by
  obtain ⟨n0, n1, _, _, hp⟩ := h.range (.inl h0)
  have hz := zs_len n0
  have ha := h.ra
  have e := List.take_append_drop i a
  have hra := ha
  rw [← e] at hra
  have hr1 := rowE_front _ _ _ hra
  have hr2 := hra
  rw [rowE_append _ _ _ hr1] at hr2
  have hpa : putsO a = putsO (a.take i) + putsO (a.drop i) := by rw [← putsO_append, e]
  have nd := putsO_nonneg (a.drop i)
  obtain ⟨j1, j2, j3, j4⟩ := all_right (a := a.take i) (b := b) (s := zs n) (by rw [hz]; exact hr1) (by rw [hz]; exact h.rb) (by omega)
  have hl := rowO_len (l := a.take i) (s := zs n) (by rw [hz]; exact hr1)
  rw [hz] at hl
  have hs1 : sumO (a.take i) ≤ putsO (a.take i) := by
    have : ∀ l : List Op3, sumO l ≤ putsO l := fun l => by
      induction l with
      | nil => exact Int.le_refl _
      | cons x l ih => have : sizeO x ≤ pO x := by unfold sizeO pO; split; omega; split <;> omega
                       simp only [sumO, putsO]; omega
    exact this _
  exact ⟨rowO (zs n) (a.take i), hl, j2, by rw [hl]; exact hr2, by omega⟩

/-- What the inner loop needs at each of its steps. -/
theorem all_step {n : Int} {a b : List Op3} (h : AllOk n a b) (i j : Nat) (d : Op3) (hi : i < a.length) (hj : j < b.length) :
    chO (n + sumO (a.take i) + sumO ((allO (a.take i) b).2.take j)) (inn (a.getD i d) ((allO (a.take i) b).2.take j)).1 = 0 ∧ chO (n + sumO (a.take i) + sumO ((allO (a.take i) b).2.take j)) ((allO (a.take i) b).2.getD j d) = 0 := by
  obtain ⟨s, hs, h1, h2, h3⟩ := all_inv h i (by omega) (by omega)
  have hl : (allO (a.take i) b).2.length = b.length := (allO_len _ _).2
  generalize (allO (a.take i) b).2 = l at *
  rw [drop_getD a i d hi] at h2 h3
  obtain ⟨hx, _⟩ := rowE_cons h2
  have e := List.take_append_drop j l
  rw [← e] at h1
  have hr1 := rowE_front _ _ _ h1
  rw [rowE_append _ _ _ hr1, drop_getD l j d (by omega)] at h1
  obtain ⟨hy, _⟩ := rowE_cons h1
  have hpl : putsO l = putsO (l.take j) + putsO (l.drop j) := by rw [← putsO_append, e]
  have nd := putsO_nonneg (l.drop j)
  have nd2 := putsO_nonneg (a.drop (i + 1))
  simp only [putsO] at h3
  obtain ⟨k1, _⟩ := inn_ok hx hr1 (by omega)
  have hl2 := rowO_len hr1
  rw [hl2] at k1
  rw [← hs]
  exact ⟨k1, hy⟩

/-- The row's whole law. -/
theorem all_law {s : List UInt8} {a b : List Op3} (h : AllOk s.length a b) (hs : s.length ≤ 140737488351232) :
    s.length ≤ 200 ∧ rowE s.length b = 0 ∧ rowE (rowO s b).length (allO a b).1 = 0 ∧ rowE s.length a = 0 ∧ rowE (rowO s a).length (allO a b).2 = 0 ∧ rowO (rowO s b) (allO a b).1 = rowO (rowO s a) (allO a b).2 := by
  by_cases h0 : 0 < a.length ∨ 0 < b.length
  · obtain ⟨n0, n1, _, _, hp⟩ := h.range h0
    obtain ⟨j1, j2, j3, _⟩ := all_right h.ra h.rb hp
    exact ⟨by omega, h.rb, j1, h.ra, j2, j3⟩
  · have ha : a = [] := List.eq_nil_of_length_eq_zero (by omega)
    have hb : b = [] := List.eq_nil_of_length_eq_zero (by omega)
    subst ha hb
    refine ⟨?_, rfl, rfl, rfl, rfl, rfl⟩
    have hw := h.wa
    have e : (s.length : Int) + sumO [] + (([] : List Op3).length + ([] : List Op3).length : Int) = s.length := by simp [sumO]
    rw [e, wrap_small (by omega) (by omega)] at hw
    omega

end Go.Proofs.Ytpeplkjidljpmaa
