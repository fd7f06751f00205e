/- Plain: the script that a longest common subsequence leaves. -/
import Derived.Test.YtigbnldmjafgmaaDoorUndoP
import Derived.Test.YtigbnldmjafgmaaDoorPlaces
import Derived.Test.YtigbnldmjafgmaaDoorLcs
namespace Go.Proofs.YtigbnldmjafgmaaDoor
set_option linter.unusedVariables false

/-- What lies between the pairs, as edits. -/
def diffL (t : List UInt8) : Nat → Nat → List (Nat × Nat) → List Ed
  | _, _, [] => []
  | i, k, p :: R => (if i < p.1 ∨ k < p.2 then [((i : Int), ((p.1 : Int) - i), e8 ((t.take p.2).drop k))] else []) ++ diffL t (p.1 + 1) (p.2 + 1) R
/-- Where the walk stands after pairs. -/
def lastI (i : Nat) (R : List (Nat × Nat)) : Nat := match R.getLast? with | none => i | some p => p.1 + 1
def lastK (k : Nat) (R : List (Nat × Nat)) : Nat := match R.getLast? with | none => k | some p => p.2 + 1
theorem diffL_snoc (t : List UInt8) : ∀ (R : List (Nat × Nat)) (i k : Nat) (p : Nat × Nat), diffL t i k (R ++ [p]) = diffL t i k R ++ (if lastI i R < p.1 ∨ lastK k R < p.2 then [((lastI i R : Int), ((p.1 : Int) - lastI i R), e8 ((t.take p.2).drop (lastK k R)))] else [])
  | [], i, k, p => by
    rw [List.nil_append, diffL, diffL, diffL, List.append_nil, List.nil_append]
    rfl
  | q :: R, i, k, p => by
    rw [List.cons_append, diffL, diffL_snoc t R, diffL, List.append_assoc]
    have e1 : lastI (q.1 + 1) R = lastI i (q :: R) := by
      unfold lastI
      cases R with
      | nil => rfl
      | cons r R => rw [List.getLast?_cons_cons]; cases h : (r :: R).getLast? with
        | none => simp at h
        | some p => rfl
    have e2 : lastK (q.2 + 1) R = lastK k (q :: R) := by
      unfold lastK
      cases R with
      | nil => rfl
      | cons r R => rw [List.getLast?_cons_cons]; cases h : (r :: R).getLast? with
        | none => simp at h
        | some p => rfl
    rw [e1, e2]
theorem lastI_snoc (i : Nat) (R : List (Nat × Nat)) (p : Nat × Nat) : lastI i (R ++ [p]) = p.1 + 1 := by simp [lastI]
theorem lastK_snoc (k : Nat) (R : List (Nat × Nat)) (p : Nat × Nat) : lastK k (R ++ [p]) = p.2 + 1 := by simp [lastK]

/-- Rising pairs of like bytes. -/
structure Rise (s t : List UInt8) (i k : Nat) (R : List (Nat × Nat)) : Prop where
  mem : ∀ p ∈ R, i ≤ p.1 ∧ p.1 < s.length ∧ k ≤ p.2 ∧ p.2 < t.length ∧ s.getD p.1 0 = t.getD p.2 0
  rise : R.Pairwise fun p q => p.1 < q.1 ∧ p.2 < q.2
variable {s t : List UInt8}
theorem rise_all (s t : List UInt8) : Rise s t 0 0 (placesOf s t) := ⟨(places_ok s t).mem, (places_ok s t).rise⟩
theorem Rise.cons {i k : Nat} {p : Nat × Nat} {R : List (Nat × Nat)} (h : Rise s t i k (p :: R)) : Rise s t (p.1 + 1) (p.2 + 1) R := by
  obtain ⟨h1, h2⟩ := List.pairwise_cons.1 h.rise
  refine ⟨fun q hq => ?_, h2⟩
  obtain ⟨a, b, c, d, e⟩ := h.mem q (by simp [hq])
  have := h1 q hq
  exact ⟨by omega, b, by omega, d, e⟩
theorem Rise.len : ∀ {R : List (Nat × Nat)} {i k : Nat}, Rise s t i k R → i ≤ s.length → k ≤ t.length → i + R.length ≤ s.length ∧ k + R.length ≤ t.length
  | [], i, k, _, hi, hk => ⟨by simpa using hi, by simpa using hk⟩
  | p :: R, i, k, h, hi, hk => by
    obtain ⟨a, b, c, d, e⟩ := h.mem p (by simp)
    have := h.cons.len (by omega) (by omega)
    rw [List.length_cons]
    omega

theorem take_drop_cut (l : List UInt8) (a b c : Nat) (h1 : a ≤ b) (h2 : b ≤ c) : (l.take c).drop a = (l.take b).drop a ++ (l.take c).drop b := by
  have e : l.take c = l.take b ++ (l.take c).drop b := by
    conv => lhs; rw [← List.take_append_drop b (l.take c)]
    rw [List.take_take, Nat.min_eq_left h2]
  by_cases hb : b ≤ l.length
  · conv => lhs; rw [e]
    rw [List.drop_append_of_le_length (by rw [List.length_take]; omega)]
  · rw [List.take_of_length_le (l := l) (i := c) (by omega), List.take_of_length_le (l := l) (i := b) (by omega), List.drop_of_length_le (l := l) (i := b) (by omega), List.append_nil]
theorem drop_cut (l : List UInt8) (a b : Nat) (h1 : a ≤ b) : l.drop a = (l.take b).drop a ++ l.drop b := by
  have := take_drop_cut l a b (max b l.length) h1 (by omega)
  rw [List.take_of_length_le (l := l) (i := max b l.length) (by omega)] at this
  exact this

/-- The edits make the one of the other. -/
theorem diff_app : ∀ (R : List (Nat × Nat)) (i k a : Nat), Rise s t i k R → a ≤ i → i ≤ s.length → k ≤ t.length → app s a (diffL t i k (R ++ [(s.length, t.length)])) = (s.take i).drop a ++ t.drop k
  | [], i, k, a, _, ha, hi, hk => by
    rw [List.nil_append, diffL, diffL, List.append_nil]
    by_cases h : i < s.length ∨ k < t.length
    · rw [if_pos h, app, app, e8_list]
      simp only [Int.toNat_natCast]
      rw [show ((i : Int) + ((s.length : Int) - i)).toNat = s.length from by omega, List.drop_of_length_le (Nat.le_refl _), List.append_nil, List.take_of_length_le (l := t) (Nat.le_refl _)]
    · rw [if_neg h, app, List.take_of_length_le (by omega), List.drop_of_length_le (l := t) (by omega), List.append_nil]
  | p :: R, i, k, a, h, ha, hi, hk => by
    obtain ⟨m1, m2, m3, m4, m5⟩ := h.mem p (by simp)
    rw [List.cons_append, diffL]
    have hs : (s.take (p.1 + 1)).drop p.1 = [s.getD p.1 0] := by rw [take_succ_getD s p.1 0 m2, List.drop_append_of_le_length (by rw [List.length_take]; omega), List.drop_of_length_le (by rw [List.length_take]; omega)]; rfl
    have ht : t.drop p.2 = t.getD p.2 0 :: t.drop (p.2 + 1) := drop_getD t p.2 0 m4
    have hk' : t.drop k = (t.take p.2).drop k ++ t.drop p.2 := drop_cut t k p.2 m3
    by_cases hc : i < p.1 ∨ k < p.2
    · rw [if_pos hc, List.cons_append, List.nil_append, app, e8_list]
      simp only [Int.toNat_natCast]
      rw [show ((i : Int) + ((p.1 : Int) - i)).toNat = p.1 from by omega, diff_app R (p.1 + 1) (p.2 + 1) p.1 h.cons (by omega) (by omega) (by omega), hs, m5, hk', ht]
      simp
    · obtain rfl : i = p.1 := by omega
      obtain rfl : k = p.2 := by omega
      rw [if_neg hc, List.nil_append, diff_app R (p.1 + 1) (p.2 + 1) a h.cons (by omega) (by omega) (by omega), take_drop_cut s a p.1 (p.1 + 1) ha (by omega), hs, m5, ht]
      simp

/-- How much a script takes and puts. -/
def costE : List Ed → Int
  | [] => 0
  | x :: l => x.2.1 + x.2.2.size + costE l
theorem costE_append : ∀ l m : List Ed, costE (l ++ m) = costE l + costE m
  | [], m => by simp [costE]
  | x :: l, m => by rw [List.cons_append, costE, costE, costE_append]; omega
theorem diff_cost : ∀ (R : List (Nat × Nat)) (i k : Nat), Rise s t i k R → i ≤ s.length → k ≤ t.length → costE (diffL t i k (R ++ [(s.length, t.length)])) = (s.length : Int) - i + (t.length - k) - 2 * R.length
  | [], i, k, _, hi, hk => by
    rw [List.nil_append, diffL, diffL, List.append_nil]
    by_cases h : i < s.length ∨ k < t.length
    · rw [if_pos h, costE, costE, e8_size, List.length_drop, List.length_take, Nat.min_self]
      simp only [List.length_nil]
      omega
    · rw [if_neg h, costE]
      simp only [List.length_nil]
      omega
  | p :: R, i, k, h, hi, hk => by
    obtain ⟨m1, m2, m3, m4, m5⟩ := h.mem p (by simp)
    rw [List.cons_append, diffL, costE_append, diff_cost R (p.1 + 1) (p.2 + 1) h.cons (by omega) (by omega), List.length_cons]
    by_cases hc : i < p.1 ∨ k < p.2
    · rw [if_pos hc, costE, costE, e8_size, List.length_drop, List.length_take]
      simp only
      omega
    · rw [if_neg hc, costE]; omega
theorem diff_ok : ∀ (R : List (Nat × Nat)) (i k : Nat) (f : Bool) (e : Int), Rise s t i k R → i ≤ s.length → k ≤ t.length → (f = false → e < i) → s.length - i + (t.length - k) ≤ 40 + 2 * R.length → OkE s.length f e (diffL t i k (R ++ [(s.length, t.length)]))
  | [], i, k, f, e, _, hi, hk, hf, hc => by
    rw [List.nil_append, diffL, diffL, List.append_nil]
    by_cases h : i < s.length ∨ k < t.length
    · rw [if_pos h]
      have hl : (e8 ((t.take t.length).drop k)).size = t.length - k := by rw [e8_size, List.length_drop, List.length_take, Nat.min_self]
      rw [List.length_nil] at hc
      exact ⟨by simp only; omega, by simp only; omega, by simp only; omega, by simp only [hl]; omega, by simp only [hl]; omega, by simp only; omega, trivial⟩
    · rw [if_neg h]; trivial
  | p :: R, i, k, f, e, h, hi, hk, hf, hc => by
    obtain ⟨m1, m2, m3, m4, m5⟩ := h.mem p (by simp)
    have hlen := h.cons.len (by omega) (by omega)
    rw [List.length_cons] at hc
    rw [List.cons_append, diffL]
    have hl : (e8 ((t.take p.2).drop k)).size = p.2 - k := by rw [e8_size, List.length_drop, List.length_take]; omega
    by_cases hq : i < p.1 ∨ k < p.2
    · rw [if_pos hq, List.cons_append, List.nil_append]
      exact ⟨by simp only; omega, by simp only; omega, by simp only; omega, by simp only [hl]; omega, by simp only [hl]; omega, by simp only; omega,
        diff_ok R (p.1 + 1) (p.2 + 1) false _ h.cons (by omega) (by omega) (fun _ => by simp only; omega) (by omega)⟩
    · rw [if_neg hq, List.nil_append]
      exact diff_ok R (p.1 + 1) (p.2 + 1) f e h.cons (by omega) (by omega) (fun hh => by have := hf hh; omega) (by omega)
theorem cost_len {n : Int} : ∀ {l : List Ed} {f : Bool} {e : Int}, OkE n f e l → (l.length : Int) ≤ costE l
  | [], f, e, _ => by simp [costE]
  | x :: l, f, e, ⟨h1, h2, h3, h4, h5, h6, h7⟩ => by
    have := cost_len h7
    rw [costE, List.length_cons]
    omega

/-- No script that makes the one of the other takes and puts less. -/
theorem app_lcs : ∀ {l : List Ed} {f : Bool} {e : Nat}, OkE s.length f e l → (f = true → e = 0) → e ≤ s.length → (s.length : Int) - e ≤ lcs (s.drop e) (app s e l) + (costE l - gain l) / 2
  | [], f, e, _, _, he => by
    have := (lcs_full (s.drop e) (s.drop e)).2 (List.Sublist.refl _)
    rw [app, costE, gain, this, List.length_drop]
    omega
  | x :: l, f, e, ⟨h1, h2, h3, h4, h5, h6, h7⟩, hf, he => by
    obtain ⟨i, hi⟩ : ∃ i : Nat, x.1 = i := ⟨x.1.toNat, by omega⟩
    obtain ⟨q, hq⟩ : ∃ q : Nat, x.1 + x.2.1 = q := ⟨(x.1 + x.2.1).toNat, by omega⟩
    have hei : e ≤ i := by
      cases f with
      | true => rw [hf rfl]; omega
      | false => have := h6 rfl; omega
    have hiq : i ≤ q := by omega
    rw [hq] at h7
    have ih := app_lcs h7 (fun h => by cases h) (by omega)
    rw [app, hq, hi, Int.toNat_natCast, Int.toNat_natCast, costE, gain]
    have e1 : s.drop e = (s.take i).drop e ++ ((s.take q).drop i ++ s.drop q) := by
      rw [← drop_cut s i q hiq, ← drop_cut s e i hei]
    have a1 := lcs_append ((s.take i).drop e) ((s.take i).drop e) ((s.take q).drop i ++ s.drop q) (x.2.2.data.toList ++ app s q l)
    have a2 := lcs_append ((s.take q).drop i) x.2.2.data.toList (s.drop q) (app s q l)
    have a3 := (lcs_full ((s.take i).drop e) ((s.take i).drop e)).2 (List.Sublist.refl _)
    rw [List.length_drop, List.length_take] at a3
    rw [e1, List.append_assoc]
    omega
end Go.Proofs.YtigbnldmjafgmaaDoor
